/-
  For every input the statement InternScript returns true, and leaves its arguments as they were.
-/
import Derived.Test.YtlhlcfijpdknfaaInternScriptm4
import Derived.Test.YtlhlcfijpdknfaaAq
import Derived.Test.YtlhlcfijpdknfaaLaw
import Derived.Test.YtlhlcfijpdknfaaRows
/-
  Chapter 2: InternScript, the walk.
-/
set_option linter.unusedSimpArgs false
set_option linter.unusedVariables false
namespace Go.Proofs.Ytlhlcfijpdknfaa
open Go.Vs Go.Vs.Ab Go.Vs.Hp Go.Vs.Tb
set_option maxRecDepth 100000
set_option maxHeartbeats 4000000

def otD : OT := .one 0 (.one 1 (.one 4 (.one 5 (.br 2 (.br 3 (.br 6 (.br 7 (.one 8 (.fin)) (.stop)) (.stop)) (.br 6 (.br 3 (.br 7 (.one 8 (.fin)) (.stop)) (.stop)) (.stop))) (.br 6 (.br 2 (.br 3 (.br 7 (.one 8 (.fin)) (.stop)) (.stop)) (.stop)) (.stop))))))

theorem pv_eq_bool {d : Nat} (a b : Bool) : pureVal Try.prog (Op.equalIn (d + 1) 4 (.bool a) (.bool b)) = some (a == b) := by
  unfold Op.equalIn
  rw [pv_bind, pv_under Try.underlying4]
  rfl
theorem bin_neBo (a : Bool) : pureVal Try.prog (binOp .neq 4 (.bool a) (.bool a)) = some (.bool false) := by
  have h := pv_eq_bool (d := 9999) a a
  have e : binOp .neq 4 (.bool a) (.bool a) = (do pure (Value.bool (!(← Op.equal 4 (.bool a) (.bool a))))) := rfl
  rw [e, pv_bind]
  have h' : pureVal Try.prog (Op.equal 4 (.bool a) (.bool a)) = some (a == a) := h
  rw [h']
  simp [pv_pure]

theorem lowS {bt br i j : Nat} {ex : Bool} {l : List Ac} {x : Int} (h1 : bt < i) (h2 : br < i) : lowF i j [(0, slR acC ex l), (3, .ptr bt 0), (4, .ptr br 0), (5, iA x)] = true := by
  simp only [lowF, slR, low, Bool.and_true, Bool.true_and, Nat.blt_eq, Bool.and_eq_true]
  exact ⟨h1, h2⟩
theorem script_does (l : List Ac) (ex : Bool) (hl : l.length ≤ maxLen) : Does Try.prog 5 [slR acC ex l] (fun m => (bA true, m)) := by
  have c0 := lives_does
  have cQ := light_does l ex hl
  cases hq : lightS l with
  | false =>
    rw [hq] at cQ
    refine does_of' Try.func5 rfl (by kernel_rfl) rfl Try.ntmps5 rfl rfl fun Q hQ => ?_
    repeat (first
        | refine tr_seq_k fun _ _ => ?_
        | (refine tr_region ?_; simp only [go_sem, List.getElem?_toArray, str_beq, reduceCtorEq, Nat.reduceEqDiff, Nat.reduceLT, Nat.reduceLeDiff, Nat.reduceAdd, Nat.reduceMul, Nat.reduceSub, Nat.reduceBEq, ↓reduceIte, bne_self_eq_false, Bool.and_false, Bool.false_and, Bool.true_or, Bool.false_or])
        | (refine tr_drawM (id := 24) follows [0, 0, 3, 7, 15, 15, 63, 127, 255, 511, 511, 2047, 4095, 8191, 16383, 16383, 65535, 131071, 262143, 524287, 524287, 1572863, 4194303, 524287, 524287, 17301503, 67108863, 134217727, 268435455, 536870911, 1073741823, 2147483647, 1073741823, 8589934591, 17179869183, 34359738367, 68719476735, 137438953471, 274877906943, 549755813887, 1099511627775, 2199023255551, 2199023255551, 6597069766655, 17592186044415, 35184372088831, 70368744177663] (by kernel_rfl) ?_; (try (rw [List.append_eq]; simp only [List.cons_append, List.nil_append])); simp (maxSteps := 4000000) only [go_sem, List.getElem?_toArray, str_beq, reduceCtorEq, Nat.reduceEqDiff, Nat.reduceLT, Nat.reduceLeDiff, Nat.reduceAdd, Nat.reduceMul, Nat.reduceSub, Nat.reduceBEq, ↓reduceIte, bne_self_eq_false, Bool.and_false, Bool.false_and, Bool.true_or, Bool.false_or])
        | (refine call_of (c0) ?_ ?_
           · first | rfl | simp only [go_sem, List.getElem?_toArray, str_beq, reduceCtorEq, Nat.reduceEqDiff, Nat.reduceLT, Nat.reduceLeDiff, Nat.reduceAdd, Nat.reduceMul, Nat.reduceSub, Nat.reduceBEq, ↓reduceIte, bne_self_eq_false, Bool.and_false, Bool.false_and, Bool.true_or, Bool.false_or, shut_col]
           simp only [go_sem, List.getElem?_toArray, str_beq, reduceCtorEq, Nat.reduceEqDiff, Nat.reduceLT, Nat.reduceLeDiff, Nat.reduceAdd, Nat.reduceMul, Nat.reduceSub, Nat.reduceBEq, ↓reduceIte, bne_self_eq_false, Bool.and_false, Bool.false_and, Bool.true_or, Bool.false_or])
        | refine k_of (by assumption) ?_
        | refine tr_block ?_
        | refine tr_scope ?_
        | (refine tr_skip ?_; try simp only [ex_seq, ex_block])
        | (refine tr_label ?_; try simp only [ex_seq, ex_block])
        | (refine tr_exit ?_; try simp only [ex_seq_exit, ex_block_exit, Nat.reduceEqDiff, if_true, if_false, ex_seq, ex_block, reduceCtorEq, ↓reduceIte])
        | (refine tr_ret ?_; try simp only [ex_seq_ret, ex_block_ret]))
    refine tr_cond rfl (fun ht => ?_) (fun hf => ?_)
    · cases ht
    · repeat (first
          | refine tr_seq_k fun _ _ => ?_
          | (refine tr_region ?_; simp only [go_sem, List.getElem?_toArray, str_beq, reduceCtorEq, Nat.reduceEqDiff, Nat.reduceLT, Nat.reduceLeDiff, Nat.reduceAdd, Nat.reduceMul, Nat.reduceSub, Nat.reduceBEq, ↓reduceIte, bne_self_eq_false, Bool.and_false, Bool.false_and, Bool.true_or, Bool.false_or])
          | (refine tr_drawM (id := 24) follows [0, 0, 3, 7, 15, 15, 63, 127, 255, 511, 511, 2047, 4095, 8191, 16383, 16383, 65535, 131071, 262143, 524287, 524287, 1572863, 4194303, 524287, 524287, 17301503, 67108863, 134217727, 268435455, 536870911, 1073741823, 2147483647, 1073741823, 8589934591, 17179869183, 34359738367, 68719476735, 137438953471, 274877906943, 549755813887, 1099511627775, 2199023255551, 2199023255551, 6597069766655, 17592186044415, 35184372088831, 70368744177663] (by kernel_rfl) ?_; (try (rw [List.append_eq]; simp only [List.cons_append, List.nil_append])); simp (maxSteps := 4000000) only [go_sem, List.getElem?_toArray, str_beq, reduceCtorEq, Nat.reduceEqDiff, Nat.reduceLT, Nat.reduceLeDiff, Nat.reduceAdd, Nat.reduceMul, Nat.reduceSub, Nat.reduceBEq, ↓reduceIte, bne_self_eq_false, Bool.and_false, Bool.false_and, Bool.true_or, Bool.false_or])
          | (refine call_of (cQ) ?_ ?_
             · first | rfl | simp only [go_sem, List.getElem?_toArray, str_beq, reduceCtorEq, Nat.reduceEqDiff, Nat.reduceLT, Nat.reduceLeDiff, Nat.reduceAdd, Nat.reduceMul, Nat.reduceSub, Nat.reduceBEq, ↓reduceIte, bne_self_eq_false, Bool.and_false, Bool.false_and, Bool.true_or, Bool.false_or, shut_col]
             simp only [go_sem, List.getElem?_toArray, str_beq, reduceCtorEq, Nat.reduceEqDiff, Nat.reduceLT, Nat.reduceLeDiff, Nat.reduceAdd, Nat.reduceMul, Nat.reduceSub, Nat.reduceBEq, ↓reduceIte, bne_self_eq_false, Bool.and_false, Bool.false_and, Bool.true_or, Bool.false_or])
          | refine k_of (by assumption) ?_
          | refine tr_block ?_
          | refine tr_scope ?_
          | (refine tr_skip ?_; try simp only [ex_seq, ex_block])
          | (refine tr_label ?_; try simp only [ex_seq, ex_block])
          | (refine tr_exit ?_; try simp only [ex_seq_exit, ex_block_exit, Nat.reduceEqDiff, if_true, if_false, ex_seq, ex_block, reduceCtorEq, ↓reduceIte])
          | (refine tr_ret ?_; try simp only [ex_seq_ret, ex_block_ret]))
      refine tr_cond rfl (fun ht => ?_) (fun hf => ?_)
      · repeat (first
            | refine tr_seq_k fun _ _ => ?_
            | (refine tr_region ?_; simp only [go_sem, List.getElem?_toArray, str_beq, reduceCtorEq, Nat.reduceEqDiff, Nat.reduceLT, Nat.reduceLeDiff, Nat.reduceAdd, Nat.reduceMul, Nat.reduceSub, Nat.reduceBEq, ↓reduceIte, bne_self_eq_false, Bool.and_false, Bool.false_and, Bool.true_or, Bool.false_or])
            | (refine tr_drawM (id := 24) follows [0, 0, 3, 7, 15, 15, 63, 127, 255, 511, 511, 2047, 4095, 8191, 16383, 16383, 65535, 131071, 262143, 524287, 524287, 1572863, 4194303, 524287, 524287, 17301503, 67108863, 134217727, 268435455, 536870911, 1073741823, 2147483647, 1073741823, 8589934591, 17179869183, 34359738367, 68719476735, 137438953471, 274877906943, 549755813887, 1099511627775, 2199023255551, 2199023255551, 6597069766655, 17592186044415, 35184372088831, 70368744177663] (by kernel_rfl) ?_; (try (rw [List.append_eq]; simp only [List.cons_append, List.nil_append])); simp (maxSteps := 4000000) only [go_sem, List.getElem?_toArray, str_beq, reduceCtorEq, Nat.reduceEqDiff, Nat.reduceLT, Nat.reduceLeDiff, Nat.reduceAdd, Nat.reduceMul, Nat.reduceSub, Nat.reduceBEq, ↓reduceIte, bne_self_eq_false, Bool.and_false, Bool.false_and, Bool.true_or, Bool.false_or])
            | refine k_of (by assumption) ?_
            | refine tr_block ?_
            | refine tr_scope ?_
            | (refine tr_skip ?_; try simp only [ex_seq, ex_block])
            | (refine tr_label ?_; try simp only [ex_seq, ex_block])
            | (refine tr_exit ?_; try simp only [ex_seq_exit, ex_block_exit, Nat.reduceEqDiff, if_true, if_false, ex_seq, ex_block, reduceCtorEq, ↓reduceIte])
            | (refine tr_ret ?_; try simp only [ex_seq_ret, ex_block_ret]))
        refine (hQ _ _ [bA true] ?_ (fun m => ?_)).2 <;> simp only [go_sem, List.getElem?_toArray, str_beq, reduceCtorEq, Nat.reduceEqDiff, Nat.reduceLT, Nat.reduceLeDiff, Nat.reduceAdd, Nat.reduceMul, Nat.reduceSub, Nat.reduceBEq, ↓reduceIte, bne_self_eq_false, Bool.and_false, Bool.false_and, Bool.true_or, Bool.false_or, Try.f5,]
      · cases hf
  | true =>
    rw [hq] at cQ
    have hl80 : l.length ≤ 80 := by
      unfold lightS at hq
      rw [Bool.and_eq_true] at hq
      exact of_decide_eq_true hq.2
    obtain ⟨mA, bt, SA, cA, tA, kA⟩ := new_gives wf0
    obtain ⟨mB, br, SB, cB, rB, kB⟩ := rnew_gives kA.wf
    have tw0 := Two.start tA rB kB
    have wf0 : Fine [] 0 := ⟨Nat.le_refl _, fun e h => (by cases h), fun e h => (by cases h)⟩
    refine does_of' Try.func5 rfl (by kernel_rfl) rfl Try.ntmps5 rfl rfl fun Q hQ => ?_
    repeat (first
        | refine tr_seq_k fun _ _ => ?_
        | (refine tr_region ?_; simp only [go_sem, List.getElem?_toArray, str_beq, reduceCtorEq, Nat.reduceEqDiff, Nat.reduceLT, Nat.reduceLeDiff, Nat.reduceAdd, Nat.reduceMul, Nat.reduceSub, Nat.reduceBEq, ↓reduceIte, bne_self_eq_false, Bool.and_false, Bool.false_and, Bool.true_or, Bool.false_or])
        | (refine tr_drawM (id := 24) follows [0, 0, 3, 7, 15, 15, 63, 127, 255, 511, 511, 2047, 4095, 8191, 16383, 16383, 65535, 131071, 262143, 524287, 524287, 1572863, 4194303, 524287, 524287, 17301503, 67108863, 134217727, 268435455, 536870911, 1073741823, 2147483647, 1073741823, 8589934591, 17179869183, 34359738367, 68719476735, 137438953471, 274877906943, 549755813887, 1099511627775, 2199023255551, 2199023255551, 6597069766655, 17592186044415, 35184372088831, 70368744177663] (by kernel_rfl) ?_; (try (rw [List.append_eq]; simp only [List.cons_append, List.nil_append])); simp (maxSteps := 4000000) only [go_sem, List.getElem?_toArray, str_beq, reduceCtorEq, Nat.reduceEqDiff, Nat.reduceLT, Nat.reduceLeDiff, Nat.reduceAdd, Nat.reduceMul, Nat.reduceSub, Nat.reduceBEq, ↓reduceIte, bne_self_eq_false, Bool.and_false, Bool.false_and, Bool.true_or, Bool.false_or])
        | (refine call_of (c0) ?_ ?_
           · first | rfl | simp only [go_sem, List.getElem?_toArray, str_beq, reduceCtorEq, Nat.reduceEqDiff, Nat.reduceLT, Nat.reduceLeDiff, Nat.reduceAdd, Nat.reduceMul, Nat.reduceSub, Nat.reduceBEq, ↓reduceIte, bne_self_eq_false, Bool.and_false, Bool.false_and, Bool.true_or, Bool.false_or, shut_col]
           simp only [go_sem, List.getElem?_toArray, str_beq, reduceCtorEq, Nat.reduceEqDiff, Nat.reduceLT, Nat.reduceLeDiff, Nat.reduceAdd, Nat.reduceMul, Nat.reduceSub, Nat.reduceBEq, ↓reduceIte, bne_self_eq_false, Bool.and_false, Bool.false_and, Bool.true_or, Bool.false_or])
        | refine k_of (by assumption) ?_
        | refine tr_block ?_
        | refine tr_scope ?_
        | (refine tr_skip ?_; try simp only [ex_seq, ex_block])
        | (refine tr_label ?_; try simp only [ex_seq, ex_block])
        | (refine tr_exit ?_; try simp only [ex_seq_exit, ex_block_exit, Nat.reduceEqDiff, if_true, if_false, ex_seq, ex_block, reduceCtorEq, ↓reduceIte])
        | (refine tr_ret ?_; try simp only [ex_seq_ret, ex_block_ret]))
    refine tr_cond rfl (fun ht => ?_) (fun hf => ?_)
    · cases ht
    · repeat (first
          | refine tr_seq_k fun _ _ => ?_
          | (refine tr_region ?_; simp only [go_sem, List.getElem?_toArray, str_beq, reduceCtorEq, Nat.reduceEqDiff, Nat.reduceLT, Nat.reduceLeDiff, Nat.reduceAdd, Nat.reduceMul, Nat.reduceSub, Nat.reduceBEq, ↓reduceIte, bne_self_eq_false, Bool.and_false, Bool.false_and, Bool.true_or, Bool.false_or])
          | (refine tr_drawM (id := 24) follows [0, 0, 3, 7, 15, 15, 63, 127, 255, 511, 511, 2047, 4095, 8191, 16383, 16383, 65535, 131071, 262143, 524287, 524287, 1572863, 4194303, 524287, 524287, 17301503, 67108863, 134217727, 268435455, 536870911, 1073741823, 2147483647, 1073741823, 8589934591, 17179869183, 34359738367, 68719476735, 137438953471, 274877906943, 549755813887, 1099511627775, 2199023255551, 2199023255551, 6597069766655, 17592186044415, 35184372088831, 70368744177663] (by kernel_rfl) ?_; (try (rw [List.append_eq]; simp only [List.cons_append, List.nil_append])); simp (maxSteps := 4000000) only [go_sem, List.getElem?_toArray, str_beq, reduceCtorEq, Nat.reduceEqDiff, Nat.reduceLT, Nat.reduceLeDiff, Nat.reduceAdd, Nat.reduceMul, Nat.reduceSub, Nat.reduceBEq, ↓reduceIte, bne_self_eq_false, Bool.and_false, Bool.false_and, Bool.true_or, Bool.false_or])
          | (refine call_of (cQ) ?_ ?_
             · first | rfl | simp only [go_sem, List.getElem?_toArray, str_beq, reduceCtorEq, Nat.reduceEqDiff, Nat.reduceLT, Nat.reduceLeDiff, Nat.reduceAdd, Nat.reduceMul, Nat.reduceSub, Nat.reduceBEq, ↓reduceIte, bne_self_eq_false, Bool.and_false, Bool.false_and, Bool.true_or, Bool.false_or, shut_col]
             simp only [go_sem, List.getElem?_toArray, str_beq, reduceCtorEq, Nat.reduceEqDiff, Nat.reduceLT, Nat.reduceLeDiff, Nat.reduceAdd, Nat.reduceMul, Nat.reduceSub, Nat.reduceBEq, ↓reduceIte, bne_self_eq_false, Bool.and_false, Bool.false_and, Bool.true_or, Bool.false_or])
          | refine k_of (by assumption) ?_
          | refine tr_block ?_
          | refine tr_scope ?_
          | (refine tr_skip ?_; try simp only [ex_seq, ex_block])
          | (refine tr_label ?_; try simp only [ex_seq, ex_block])
          | (refine tr_exit ?_; try simp only [ex_seq_exit, ex_block_exit, Nat.reduceEqDiff, if_true, if_false, ex_seq, ex_block, reduceCtorEq, ↓reduceIte])
          | (refine tr_ret ?_; try simp only [ex_seq_ret, ex_block_ret]))
      refine tr_cond rfl (fun ht => ?_) (fun hf => ?_)
      · cases ht
      · repeat (first
            | refine tr_seq_k fun _ _ => ?_
            | (refine tr_region ?_; simp only [go_sem, List.getElem?_toArray, str_beq, reduceCtorEq, Nat.reduceEqDiff, Nat.reduceLT, Nat.reduceLeDiff, Nat.reduceAdd, Nat.reduceMul, Nat.reduceSub, Nat.reduceBEq, ↓reduceIte, bne_self_eq_false, Bool.and_false, Bool.false_and, Bool.true_or, Bool.false_or])
            | (refine tr_drawM (id := 24) follows [0, 0, 3, 7, 15, 15, 63, 127, 255, 511, 511, 2047, 4095, 8191, 16383, 16383, 65535, 131071, 262143, 524287, 524287, 1572863, 4194303, 524287, 524287, 17301503, 67108863, 134217727, 268435455, 536870911, 1073741823, 2147483647, 1073741823, 8589934591, 17179869183, 34359738367, 68719476735, 137438953471, 274877906943, 549755813887, 1099511627775, 2199023255551, 2199023255551, 6597069766655, 17592186044415, 35184372088831, 70368744177663] (by kernel_rfl) ?_; (try (rw [List.append_eq]; simp only [List.cons_append, List.nil_append])); simp (maxSteps := 4000000) only [go_sem, List.getElem?_toArray, str_beq, reduceCtorEq, Nat.reduceEqDiff, Nat.reduceLT, Nat.reduceLeDiff, Nat.reduceAdd, Nat.reduceMul, Nat.reduceSub, Nat.reduceBEq, ↓reduceIte, bne_self_eq_false, Bool.and_false, Bool.false_and, Bool.true_or, Bool.false_or])
            | (refine call_givesW (cA) ?_; (try dsimp only); (try simp only [go_sem, List.getElem?_toArray, str_beq, reduceCtorEq, Nat.reduceEqDiff, Nat.reduceLT, Nat.reduceLeDiff, Nat.reduceAdd, Nat.reduceMul, Nat.reduceSub, Nat.reduceBEq, ↓reduceIte, bne_self_eq_false, Bool.and_false, Bool.false_and, Bool.true_or, Bool.false_or]))
            | (refine call_givesW (cB) ?_; (try dsimp only); (try simp only [go_sem, List.getElem?_toArray, str_beq, reduceCtorEq, Nat.reduceEqDiff, Nat.reduceLT, Nat.reduceLeDiff, Nat.reduceAdd, Nat.reduceMul, Nat.reduceSub, Nat.reduceBEq, ↓reduceIte, bne_self_eq_false, Bool.and_false, Bool.false_and, Bool.true_or, Bool.false_or]))
            | refine k_of (by assumption) ?_
            | refine tr_block ?_
            | refine tr_scope ?_
            | (refine tr_skip ?_; try simp only [ex_seq, ex_block])
            | (refine tr_label ?_; try simp only [ex_seq, ex_block])
            | (refine tr_exit ?_; try simp only [ex_seq_exit, ex_block_exit, Nat.reduceEqDiff, if_true, if_false, ex_seq, ex_block, reduceCtorEq, ↓reduceIte])
            | (refine tr_ret ?_; try simp only [ex_seq_ret, ex_block_ret]))
        refine tr_loop_k (σ := Mm × List Nat × List Nat × List Ent × Nat) (fun q => [(0, slR acC ex l), (3, .ptr bt 0), (4, .ptr br 0), (5, iA q.2.2.2.2)]) (fun q => q.1)
          (fun q => Two q.1 bt br q.2.2.2.1 q.2.1 q.2.2.1 ∧ Fine q.2.2.2.1 q.2.2.2.2 ∧ q.2.2.2.2 ≤ l.length ∧ mB.hp.length ≤ q.1.hp.length ∧ q.1.hw = mB.hw) (fun q => l.length - q.2.2.2.2) (mB, SA, SB, [], 0) ⟨tw0, wf0, Nat.zero_le _, Nat.le_refl _, rfl⟩ ⟨rfl, rfl, rfl, rfl, trivial⟩ rfl ?_
        rintro ⟨m, S1, S2, E, i⟩ ⟨tw, fn, hi, hL0, hw0⟩ K hK
        dsimp only at tw fn hi hL0 hw0 hK
        clear tA kA rB kB tw0 wf0 cA cB cQ c0
        by_cases hlt : i < l.length
        · have d1 : decide ((i : Int) < (l.length : Nat)) = true := decide_eq_true (by omega)
          have ws := wrap_succ (show i ≤ 1000000000 by omega)
          have ix := idxA (ex := ex) hlt
          generalize hLi : l[i] = a at ix
          obtain ⟨kd, s, n⟩ := a
          have ix : aIndexAddr Try.prog 41 (slR acC ex l) (.c (.v (.int .i64 (i : Int)))) = some (.cptr ([.v (.int .i64 kd), .v (.string s), .v (.int .i64 n)] ++ (l.drop (i + 1)).flatMap acC)) := ix
          have cP := pick_does kd 3 (by decide)
          have hp := pickN_in kd (show (1 : Int) ≤ 3 by decide)
          have tw1 := tw.add (nb := ⟨false, [iA kd, sA s, iA n]⟩) rfl
          have hA : (m.hp ++ [⟨false, [iA kd, sA s, iA n]⟩])[m.hp.length]? = some ⟨false, [iA kd, sA s, iA n]⟩ := by simp
          obtain ⟨m1, hm1⟩ : ∃ m1 : Mm, m1 = ⟨m.hp ++ [⟨false, [iA kd, sA s, iA n]⟩], m.hw⟩ := ⟨_, rfl⟩
          have hA1 : m1.hp[m.hp.length]? = some ⟨false, [iA kd, sA s, iA n]⟩ := by rw [hm1]; exact hA
          have hL1 : mB.hp.length ≤ m1.hp.length := by rw [hm1]; show _ ≤ (m.hp ++ _).length; rw [List.length_append]; omega
          have hw1 : m1.hw = mB.hw := by rw [hm1]; exact hw0
          have tw1 : Two m1 bt br E S1 S2 := by rw [hm1]; exact tw1
          have hS1 : m.hp.length ∉ S1 := fun h => by have := tw.tab.slt _ h; omega
          have hS2 : m.hp.length ∉ S2 := fun h => by have := tw.ref.slt _ h; omega
          have gA : ∀ nb : Blk, (m.hp ++ [nb])[m.hp.length]? = some nb := fun nb => by simp
          have gS : ∀ nb nb' : Blk, (m.hp ++ [nb]).set m.hp.length nb' = m.hp ++ [nb'] := fun nb nb' => by simp
          have gM := hm1.symm
          clear hm1 hA tw
          have hpc : pickN kd 3 = 0 ∨ pickN kd 3 = 1 ∨ pickN kd 3 = 2 := by omega
          have hE1000 : E.length ≤ 1000 := by have := fn.len; omega
          have hU : ∀ e ∈ E, e.2 ≤ 100000 := fun e he => by have := fn.use e he; omega
          repeat (first
              | refine tr_seq_k fun _ _ => ?_
              | (refine tr_region ?_; simp only [go_sem, List.getElem?_toArray, str_beq, reduceCtorEq, Nat.reduceEqDiff, Nat.reduceLT, Nat.reduceLeDiff, Nat.reduceAdd, Nat.reduceMul, Nat.reduceSub, Nat.reduceBEq, ↓reduceIte, bne_self_eq_false, Bool.and_false, Bool.false_and, Bool.true_or, Bool.false_or, d1])
              | (refine tr_drawM (id := 24) follows [0, 0, 3, 7, 15, 15, 63, 127, 255, 511, 511, 2047, 4095, 8191, 16383, 16383, 65535, 131071, 262143, 524287, 524287, 1572863, 4194303, 524287, 524287, 17301503, 67108863, 134217727, 268435455, 536870911, 1073741823, 2147483647, 1073741823, 8589934591, 17179869183, 34359738367, 68719476735, 137438953471, 274877906943, 549755813887, 1099511627775, 2199023255551, 2199023255551, 6597069766655, 17592186044415, 35184372088831, 70368744177663] (by kernel_rfl) ?_; (try (rw [List.append_eq]; simp only [List.cons_append, List.nil_append])); simp (maxSteps := 4000000) only [go_sem, List.getElem?_toArray, str_beq, reduceCtorEq, Nat.reduceEqDiff, Nat.reduceLT, Nat.reduceLeDiff, Nat.reduceAdd, Nat.reduceMul, Nat.reduceSub, Nat.reduceBEq, ↓reduceIte, bne_self_eq_false, Bool.and_false, Bool.false_and, Bool.true_or, Bool.false_or, d1])
              | refine k_of (by assumption) ?_
              | refine tr_block ?_
              | refine tr_scope ?_
              | (refine tr_skip ?_; try simp only [ex_seq, ex_block])
              | (refine tr_label ?_; try simp only [ex_seq, ex_block])
              | (refine tr_exit ?_; try simp only [ex_seq_exit, ex_block_exit, Nat.reduceEqDiff, if_true, if_false, ex_seq, ex_block, reduceCtorEq, ↓reduceIte])
              | (refine tr_ret ?_; try simp only [ex_seq_ret, ex_block_ret]))
          refine tr_cond rfl (fun ht => ?_) (fun hf => ?_)
          · rcases hpc with hp0 | hp0 | hp0
            · rw [hp0] at cP
              have hD0 : decide ((0 : Int) = 0) = true := rfl
              have hD1 : decide ((0 : Int) = 1) = false := rfl
              obtain ⟨m2, S1', c1, t2, k2⟩ := take_tab tw1.tab tw1.wf s hE1000 hU
              have r2 := tw1.ref.keep k2 (fun j hj h => tw1.dis j h hj)
              obtain ⟨mF, S2', c2, r3, k3⟩ := rtake_tab r2 k2.wf s hE1000 hU
              have tF := tw1.next t2 k2 r3 k3
              have hA2 := k2.old _ _ hS1 hA1
              have hA6 := k3.old _ _ hS2 hA2
              have fF := fn.take s
              have hLF := Nat.le_trans hL1 (Nat.le_trans k2.len k3.len)
              have hwF : mF.hw = mB.hw := k3.hw.trans (k2.hw.trans hw1)
              generalize (takeS E s).2 = E' at *
              generalize (((takeS E s).1.1 : Nat) : Int) = v7 at *
              generalize (takeS E s).1.2 = v8 at *
              repeat (first
                  | refine tr_seq_k fun _ _ => ?_
                  | (refine tr_region ?_; simp only [go_sem, List.getElem?_toArray, str_beq, reduceCtorEq, Nat.reduceEqDiff, Nat.reduceLT, Nat.reduceLeDiff, Nat.reduceAdd, Nat.reduceMul, Nat.reduceSub, Nat.reduceBEq, ↓reduceIte, bne_self_eq_false, Bool.and_false, Bool.false_and, Bool.true_or, Bool.false_or, ix, d1, gA, gS, gM, hA1, hD0, hD1])
                  | (refine tr_drawM (id := 24) follows [0, 0, 3, 7, 15, 15, 63, 127, 255, 511, 511, 2047, 4095, 8191, 16383, 16383, 65535, 131071, 262143, 524287, 524287, 1572863, 4194303, 524287, 524287, 17301503, 67108863, 134217727, 268435455, 536870911, 1073741823, 2147483647, 1073741823, 8589934591, 17179869183, 34359738367, 68719476735, 137438953471, 274877906943, 549755813887, 1099511627775, 2199023255551, 2199023255551, 6597069766655, 17592186044415, 35184372088831, 70368744177663] (by kernel_rfl) ?_; (try (rw [List.append_eq]; simp only [List.cons_append, List.nil_append])); simp (maxSteps := 4000000) only [go_sem, List.getElem?_toArray, str_beq, reduceCtorEq, Nat.reduceEqDiff, Nat.reduceLT, Nat.reduceLeDiff, Nat.reduceAdd, Nat.reduceMul, Nat.reduceSub, Nat.reduceBEq, ↓reduceIte, bne_self_eq_false, Bool.and_false, Bool.false_and, Bool.true_or, Bool.false_or, ix, d1, gA, gS, gM, hA1, hD0, hD1])
                  | (refine call_of (cP) ?_ ?_
                     · first | rfl | simp only [go_sem, List.getElem?_toArray, str_beq, reduceCtorEq, Nat.reduceEqDiff, Nat.reduceLT, Nat.reduceLeDiff, Nat.reduceAdd, Nat.reduceMul, Nat.reduceSub, Nat.reduceBEq, ↓reduceIte, bne_self_eq_false, Bool.and_false, Bool.false_and, Bool.true_or, Bool.false_or, ix, d1, gA, gS, gM, hA1, hD0, hD1, shut_col]
                     simp only [go_sem, List.getElem?_toArray, str_beq, reduceCtorEq, Nat.reduceEqDiff, Nat.reduceLT, Nat.reduceLeDiff, Nat.reduceAdd, Nat.reduceMul, Nat.reduceSub, Nat.reduceBEq, ↓reduceIte, bne_self_eq_false, Bool.and_false, Bool.false_and, Bool.true_or, Bool.false_or, ix, d1, gA, gS, gM, hA1, hD0, hD1])
                  | refine k_of (by assumption) ?_
                  | refine tr_block ?_
                  | refine tr_scope ?_
                  | (refine tr_skip ?_; try simp only [ex_seq, ex_block])
                  | (refine tr_label ?_; try simp only [ex_seq, ex_block])
                  | (refine tr_exit ?_; try simp only [ex_seq_exit, ex_block_exit, Nat.reduceEqDiff, if_true, if_false, ex_seq, ex_block, reduceCtorEq, ↓reduceIte])
                  | (refine tr_ret ?_; try simp only [ex_seq_ret, ex_block_ret]))
              refine tr_cond rfl (fun ht => ?_) (fun hf => ?_)
              · repeat (first
                    | refine tr_seq_k fun _ _ => ?_
                    | (refine tr_region ?_; simp only [go_sem, List.getElem?_toArray, str_beq, reduceCtorEq, Nat.reduceEqDiff, Nat.reduceLT, Nat.reduceLeDiff, Nat.reduceAdd, Nat.reduceMul, Nat.reduceSub, Nat.reduceBEq, ↓reduceIte, bne_self_eq_false, Bool.and_false, Bool.false_and, Bool.true_or, Bool.false_or, hA1, hA2])
                    | (refine tr_drawM (id := 24) follows [0, 0, 3, 7, 15, 15, 63, 127, 255, 511, 511, 2047, 4095, 8191, 16383, 16383, 65535, 131071, 262143, 524287, 524287, 1572863, 4194303, 524287, 524287, 17301503, 67108863, 134217727, 268435455, 536870911, 1073741823, 2147483647, 1073741823, 8589934591, 17179869183, 34359738367, 68719476735, 137438953471, 274877906943, 549755813887, 1099511627775, 2199023255551, 2199023255551, 6597069766655, 17592186044415, 35184372088831, 70368744177663] (by kernel_rfl) ?_; (try (rw [List.append_eq]; simp only [List.cons_append, List.nil_append])); simp (maxSteps := 4000000) only [go_sem, List.getElem?_toArray, str_beq, reduceCtorEq, Nat.reduceEqDiff, Nat.reduceLT, Nat.reduceLeDiff, Nat.reduceAdd, Nat.reduceMul, Nat.reduceSub, Nat.reduceBEq, ↓reduceIte, bne_self_eq_false, Bool.and_false, Bool.false_and, Bool.true_or, Bool.false_or, hA1, hA2])
                    | (refine call_givesW (c1) ?_; (try dsimp only); (try simp only [go_sem, List.getElem?_toArray, str_beq, reduceCtorEq, Nat.reduceEqDiff, Nat.reduceLT, Nat.reduceLeDiff, Nat.reduceAdd, Nat.reduceMul, Nat.reduceSub, Nat.reduceBEq, ↓reduceIte, bne_self_eq_false, Bool.and_false, Bool.false_and, Bool.true_or, Bool.false_or, hA1, hA2]))
                    | (refine call_givesW (c2) ?_; (try dsimp only); (try simp only [go_sem, List.getElem?_toArray, str_beq, reduceCtorEq, Nat.reduceEqDiff, Nat.reduceLT, Nat.reduceLeDiff, Nat.reduceAdd, Nat.reduceMul, Nat.reduceSub, Nat.reduceBEq, ↓reduceIte, bne_self_eq_false, Bool.and_false, Bool.false_and, Bool.true_or, Bool.false_or, hA1, hA2]))
                    | refine k_of (by assumption) ?_
                    | refine tr_block ?_
                    | refine tr_scope ?_
                    | (refine tr_skip ?_; try simp only [ex_seq, ex_block])
                    | (refine tr_label ?_; try simp only [ex_seq, ex_block])
                    | (refine tr_exit ?_; try simp only [ex_seq_exit, ex_block_exit, Nat.reduceEqDiff, if_true, if_false, ex_seq, ex_block, reduceCtorEq, ↓reduceIte])
                    | (refine tr_ret ?_; try simp only [ex_seq_ret, ex_block_ret]))
                refine tr_cond rfl (fun ht => ?_) (fun hf => ?_)
                · cases ht
                · have cT := text_tab tF.tab n
                  have cU := rtext_gives tF.ref n
                  have cF := find_tab tF.tab s
                  have cG := rfind_gives tF.ref tF.wf (by have := fF.len; omega) s
                  have cE : GivesW Try.prog 24 [.ptr bt 0, iA 100] mF (.tup [slR exC (decide (exL E' = [])) (exL E'), bA true]) mF := entries_gives tF.tab (by have := fF.len; omega) (fun e he => Nat.le_trans (fF.size e he) (by decide)) (most := 100) (by have := exL_le E'; rw [exL_len] at this; have := fF.len; omega) (by decide)
                  have cH := uses_tab tF.tab n
                  have cI := ruses_gives tF.ref n
                  have cJ := len_tab tF.tab
                  have cK := rlen_gives tF.ref tF.wf (by have := fF.len; omega)
                  have cL := each_gives tF.ref tF.wf (by have := fF.len; omega)
                  have cM := sameX_does (exL E') (exL E') (decide (exL E' = [])) (exL E').isEmpty (by have := exL_le E'; have := fF.len; omega)
                  rw [decide_eq_true rfl] at cM
                  generalize textS E' n = v1 at *
                  generalize (if hasS E' n = true then (0 : Int) else 13) = v2 at *
                  generalize (((findS E' s).getD 0 : Nat) : Int) = v3 at *
                  generalize (findS E' s).isSome = v4 at *
                  generalize ((usesS E' n : Nat) : Int) = v5 at *
                  generalize ((liveN E' : Nat) : Int) = v6 at *
                  repeat (first
                      | refine tr_seq_k fun _ _ => ?_
                      | (refine tr_region ?_; simp only [go_sem, List.getElem?_toArray, str_beq, reduceCtorEq, Nat.reduceEqDiff, Nat.reduceLT, Nat.reduceLeDiff, Nat.reduceAdd, Nat.reduceMul, Nat.reduceSub, Nat.reduceBEq, ↓reduceIte, bne_self_eq_false, Bool.and_false, Bool.false_and, Bool.true_or, Bool.false_or, hA6, bne_self_eq_false, beq_self_eq_true, bin_neBo v4])
                      | (refine tr_drawM (id := 24) follows [0, 0, 3, 7, 15, 15, 63, 127, 255, 511, 511, 2047, 4095, 8191, 16383, 16383, 65535, 131071, 262143, 524287, 524287, 1572863, 4194303, 524287, 524287, 17301503, 67108863, 134217727, 268435455, 536870911, 1073741823, 2147483647, 1073741823, 8589934591, 17179869183, 34359738367, 68719476735, 137438953471, 274877906943, 549755813887, 1099511627775, 2199023255551, 2199023255551, 6597069766655, 17592186044415, 35184372088831, 70368744177663] (by kernel_rfl) ?_; (try (rw [List.append_eq]; simp only [List.cons_append, List.nil_append])); simp (maxSteps := 4000000) only [go_sem, List.getElem?_toArray, str_beq, reduceCtorEq, Nat.reduceEqDiff, Nat.reduceLT, Nat.reduceLeDiff, Nat.reduceAdd, Nat.reduceMul, Nat.reduceSub, Nat.reduceBEq, ↓reduceIte, bne_self_eq_false, Bool.and_false, Bool.false_and, Bool.true_or, Bool.false_or, hA6, bne_self_eq_false, beq_self_eq_true, bin_neBo v4])
                      | (refine call_givesW (cT) ?_; (try dsimp only); (try simp only [go_sem, List.getElem?_toArray, str_beq, reduceCtorEq, Nat.reduceEqDiff, Nat.reduceLT, Nat.reduceLeDiff, Nat.reduceAdd, Nat.reduceMul, Nat.reduceSub, Nat.reduceBEq, ↓reduceIte, bne_self_eq_false, Bool.and_false, Bool.false_and, Bool.true_or, Bool.false_or, hA6, bne_self_eq_false, beq_self_eq_true, bin_neBo v4]))
                      | (refine call_givesW (cU) ?_; (try dsimp only); (try simp only [go_sem, List.getElem?_toArray, str_beq, reduceCtorEq, Nat.reduceEqDiff, Nat.reduceLT, Nat.reduceLeDiff, Nat.reduceAdd, Nat.reduceMul, Nat.reduceSub, Nat.reduceBEq, ↓reduceIte, bne_self_eq_false, Bool.and_false, Bool.false_and, Bool.true_or, Bool.false_or, hA6, bne_self_eq_false, beq_self_eq_true, bin_neBo v4]))
                      | (refine call_givesW (cF) ?_; (try dsimp only); (try simp only [go_sem, List.getElem?_toArray, str_beq, reduceCtorEq, Nat.reduceEqDiff, Nat.reduceLT, Nat.reduceLeDiff, Nat.reduceAdd, Nat.reduceMul, Nat.reduceSub, Nat.reduceBEq, ↓reduceIte, bne_self_eq_false, Bool.and_false, Bool.false_and, Bool.true_or, Bool.false_or, hA6, bne_self_eq_false, beq_self_eq_true, bin_neBo v4]))
                      | (refine call_givesW (cG) ?_; (try dsimp only); (try simp only [go_sem, List.getElem?_toArray, str_beq, reduceCtorEq, Nat.reduceEqDiff, Nat.reduceLT, Nat.reduceLeDiff, Nat.reduceAdd, Nat.reduceMul, Nat.reduceSub, Nat.reduceBEq, ↓reduceIte, bne_self_eq_false, Bool.and_false, Bool.false_and, Bool.true_or, Bool.false_or, hA6, bne_self_eq_false, beq_self_eq_true, bin_neBo v4]))
                      | (refine call_givesW (cE) ?_; (try dsimp only); (try simp only [go_sem, List.getElem?_toArray, str_beq, reduceCtorEq, Nat.reduceEqDiff, Nat.reduceLT, Nat.reduceLeDiff, Nat.reduceAdd, Nat.reduceMul, Nat.reduceSub, Nat.reduceBEq, ↓reduceIte, bne_self_eq_false, Bool.and_false, Bool.false_and, Bool.true_or, Bool.false_or, hA6, bne_self_eq_false, beq_self_eq_true, bin_neBo v4]))
                      | (refine call_givesW (cH) ?_; (try dsimp only); (try simp only [go_sem, List.getElem?_toArray, str_beq, reduceCtorEq, Nat.reduceEqDiff, Nat.reduceLT, Nat.reduceLeDiff, Nat.reduceAdd, Nat.reduceMul, Nat.reduceSub, Nat.reduceBEq, ↓reduceIte, bne_self_eq_false, Bool.and_false, Bool.false_and, Bool.true_or, Bool.false_or, hA6, bne_self_eq_false, beq_self_eq_true, bin_neBo v4]))
                      | (refine call_givesW (cI) ?_; (try dsimp only); (try simp only [go_sem, List.getElem?_toArray, str_beq, reduceCtorEq, Nat.reduceEqDiff, Nat.reduceLT, Nat.reduceLeDiff, Nat.reduceAdd, Nat.reduceMul, Nat.reduceSub, Nat.reduceBEq, ↓reduceIte, bne_self_eq_false, Bool.and_false, Bool.false_and, Bool.true_or, Bool.false_or, hA6, bne_self_eq_false, beq_self_eq_true, bin_neBo v4]))
                      | (refine call_givesW (cJ) ?_; (try dsimp only); (try simp only [go_sem, List.getElem?_toArray, str_beq, reduceCtorEq, Nat.reduceEqDiff, Nat.reduceLT, Nat.reduceLeDiff, Nat.reduceAdd, Nat.reduceMul, Nat.reduceSub, Nat.reduceBEq, ↓reduceIte, bne_self_eq_false, Bool.and_false, Bool.false_and, Bool.true_or, Bool.false_or, hA6, bne_self_eq_false, beq_self_eq_true, bin_neBo v4]))
                      | (refine call_givesW (cK) ?_; (try dsimp only); (try simp only [go_sem, List.getElem?_toArray, str_beq, reduceCtorEq, Nat.reduceEqDiff, Nat.reduceLT, Nat.reduceLeDiff, Nat.reduceAdd, Nat.reduceMul, Nat.reduceSub, Nat.reduceBEq, ↓reduceIte, bne_self_eq_false, Bool.and_false, Bool.false_and, Bool.true_or, Bool.false_or, hA6, bne_self_eq_false, beq_self_eq_true, bin_neBo v4]))
                      | (refine call_givesW (cL) ?_; (try dsimp only); (try simp only [go_sem, List.getElem?_toArray, str_beq, reduceCtorEq, Nat.reduceEqDiff, Nat.reduceLT, Nat.reduceLeDiff, Nat.reduceAdd, Nat.reduceMul, Nat.reduceSub, Nat.reduceBEq, ↓reduceIte, bne_self_eq_false, Bool.and_false, Bool.false_and, Bool.true_or, Bool.false_or, hA6, bne_self_eq_false, beq_self_eq_true, bin_neBo v4]))
                      | (refine call_of (cM) ?_ ?_
                         · first | rfl | simp only [go_sem, List.getElem?_toArray, str_beq, reduceCtorEq, Nat.reduceEqDiff, Nat.reduceLT, Nat.reduceLeDiff, Nat.reduceAdd, Nat.reduceMul, Nat.reduceSub, Nat.reduceBEq, ↓reduceIte, bne_self_eq_false, Bool.and_false, Bool.false_and, Bool.true_or, Bool.false_or, hA6, bne_self_eq_false, beq_self_eq_true, bin_neBo v4, shut_col]
                         simp only [go_sem, List.getElem?_toArray, str_beq, reduceCtorEq, Nat.reduceEqDiff, Nat.reduceLT, Nat.reduceLeDiff, Nat.reduceAdd, Nat.reduceMul, Nat.reduceSub, Nat.reduceBEq, ↓reduceIte, bne_self_eq_false, Bool.and_false, Bool.false_and, Bool.true_or, Bool.false_or, hA6, bne_self_eq_false, beq_self_eq_true, bin_neBo v4])
                      | refine k_of (by assumption) ?_
                      | refine tr_block ?_
                      | refine tr_scope ?_
                      | (refine tr_skip ?_; try simp only [ex_seq, ex_block])
                      | (refine tr_label ?_; try simp only [ex_seq, ex_block])
                      | (refine tr_exit ?_; try simp only [ex_seq_exit, ex_block_exit, Nat.reduceEqDiff, if_true, if_false, ex_seq, ex_block, reduceCtorEq, ↓reduceIte])
                      | (refine tr_ret ?_; try simp only [ex_seq_ret, ex_block_ret]))
                  refine tr_cond rfl (fun ht => ?_) (fun hf => ?_)
                  · cases ht
                  · repeat (first
                        | refine tr_seq_k fun _ _ => ?_
                        | (refine tr_region ?_; simp only [go_sem, List.getElem?_toArray, str_beq, reduceCtorEq, Nat.reduceEqDiff, Nat.reduceLT, Nat.reduceLeDiff, Nat.reduceAdd, Nat.reduceMul, Nat.reduceSub, Nat.reduceBEq, ↓reduceIte, bne_self_eq_false, Bool.and_false, Bool.false_and, Bool.true_or, Bool.false_or, ws])
                        | (refine tr_drawM (id := 24) follows [0, 0, 3, 7, 15, 15, 63, 127, 255, 511, 511, 2047, 4095, 8191, 16383, 16383, 65535, 131071, 262143, 524287, 524287, 1572863, 4194303, 524287, 524287, 17301503, 67108863, 134217727, 268435455, 536870911, 1073741823, 2147483647, 1073741823, 8589934591, 17179869183, 34359738367, 68719476735, 137438953471, 274877906943, 549755813887, 1099511627775, 2199023255551, 2199023255551, 6597069766655, 17592186044415, 35184372088831, 70368744177663] (by kernel_rfl) ?_; (try (rw [List.append_eq]; simp only [List.cons_append, List.nil_append])); simp (maxSteps := 4000000) only [go_sem, List.getElem?_toArray, str_beq, reduceCtorEq, Nat.reduceEqDiff, Nat.reduceLT, Nat.reduceLeDiff, Nat.reduceAdd, Nat.reduceMul, Nat.reduceSub, Nat.reduceBEq, ↓reduceIte, bne_self_eq_false, Bool.and_false, Bool.false_and, Bool.true_or, Bool.false_or, ws])
                        | refine k_of (by assumption) ?_
                        | refine tr_block ?_
                        | refine tr_scope ?_
                        | (refine tr_skip ?_; try simp only [ex_seq, ex_block])
                        | (refine tr_label ?_; try simp only [ex_seq, ex_block])
                        | (refine tr_exit ?_; try simp only [ex_seq_exit, ex_block_exit, Nat.reduceEqDiff, if_true, if_false, ex_seq, ex_block, reduceCtorEq, ↓reduceIte])
                        | (refine tr_ret ?_; try simp only [ex_seq_ret, ex_block_ret]))
                    exact hK (mF, S1', S2', E', i + 1) _ _ ⟨tF, fF, hlt, hLF, hwF⟩ ⟨⟨rfl, rfl, rfl, rfl, trivial⟩, Keep.refl _, lowS tF.tab.lt tF.ref.lt, tF.wf, hLF, by dsimp only; rw [hwF]; exact Nat.le_refl _⟩ (by dsimp only; omega)
              · cases hf
            · rw [hp0] at cP
              have hD0 : decide ((1 : Int) = 0) = false := rfl
              have hD1 : decide ((1 : Int) = 1) = true := rfl
              obtain ⟨m2, S1', c1, t2, k2⟩ := drop_tab tw1.tab tw1.wf n hE1000 hU
              have r2 := tw1.ref.keep k2 (fun j hj h => tw1.dis j h hj)
              obtain ⟨mF, c2, r3, k3⟩ := rdrop_gives r2 k2.wf n hE1000 hU tw1.tab.used
              have tF := tw1.next t2 k2 r3 k3
              have hA2 := k2.old _ _ hS1 hA1
              have hA6 := k3.old _ _ hS2 hA2
              have fF := fn.drop n
              have hLF := Nat.le_trans hL1 (Nat.le_trans k2.len k3.len)
              have hwF : mF.hw = mB.hw := k3.hw.trans (k2.hw.trans hw1)
              obtain ⟨S2', hS2'⟩ : ∃ S2', S2' = S2 := ⟨_, rfl⟩
              rw [← hS2'] at tF
              generalize (dropS E n).2 = E' at *
              generalize (dropS E n).1 = v8 at *
              repeat (first
                  | refine tr_seq_k fun _ _ => ?_
                  | (refine tr_region ?_; simp only [go_sem, List.getElem?_toArray, str_beq, reduceCtorEq, Nat.reduceEqDiff, Nat.reduceLT, Nat.reduceLeDiff, Nat.reduceAdd, Nat.reduceMul, Nat.reduceSub, Nat.reduceBEq, ↓reduceIte, bne_self_eq_false, Bool.and_false, Bool.false_and, Bool.true_or, Bool.false_or, ix, d1, gA, gS, gM, hA1, hD0, hD1])
                  | (refine tr_drawM (id := 24) follows [0, 0, 3, 7, 15, 15, 63, 127, 255, 511, 511, 2047, 4095, 8191, 16383, 16383, 65535, 131071, 262143, 524287, 524287, 1572863, 4194303, 524287, 524287, 17301503, 67108863, 134217727, 268435455, 536870911, 1073741823, 2147483647, 1073741823, 8589934591, 17179869183, 34359738367, 68719476735, 137438953471, 274877906943, 549755813887, 1099511627775, 2199023255551, 2199023255551, 6597069766655, 17592186044415, 35184372088831, 70368744177663] (by kernel_rfl) ?_; (try (rw [List.append_eq]; simp only [List.cons_append, List.nil_append])); simp (maxSteps := 4000000) only [go_sem, List.getElem?_toArray, str_beq, reduceCtorEq, Nat.reduceEqDiff, Nat.reduceLT, Nat.reduceLeDiff, Nat.reduceAdd, Nat.reduceMul, Nat.reduceSub, Nat.reduceBEq, ↓reduceIte, bne_self_eq_false, Bool.and_false, Bool.false_and, Bool.true_or, Bool.false_or, ix, d1, gA, gS, gM, hA1, hD0, hD1])
                  | (refine call_of (cP) ?_ ?_
                     · first | rfl | simp only [go_sem, List.getElem?_toArray, str_beq, reduceCtorEq, Nat.reduceEqDiff, Nat.reduceLT, Nat.reduceLeDiff, Nat.reduceAdd, Nat.reduceMul, Nat.reduceSub, Nat.reduceBEq, ↓reduceIte, bne_self_eq_false, Bool.and_false, Bool.false_and, Bool.true_or, Bool.false_or, ix, d1, gA, gS, gM, hA1, hD0, hD1, shut_col]
                     simp only [go_sem, List.getElem?_toArray, str_beq, reduceCtorEq, Nat.reduceEqDiff, Nat.reduceLT, Nat.reduceLeDiff, Nat.reduceAdd, Nat.reduceMul, Nat.reduceSub, Nat.reduceBEq, ↓reduceIte, bne_self_eq_false, Bool.and_false, Bool.false_and, Bool.true_or, Bool.false_or, ix, d1, gA, gS, gM, hA1, hD0, hD1])
                  | refine k_of (by assumption) ?_
                  | refine tr_block ?_
                  | refine tr_scope ?_
                  | (refine tr_skip ?_; try simp only [ex_seq, ex_block])
                  | (refine tr_label ?_; try simp only [ex_seq, ex_block])
                  | (refine tr_exit ?_; try simp only [ex_seq_exit, ex_block_exit, Nat.reduceEqDiff, if_true, if_false, ex_seq, ex_block, reduceCtorEq, ↓reduceIte])
                  | (refine tr_ret ?_; try simp only [ex_seq_ret, ex_block_ret]))
              refine tr_cond rfl (fun ht => ?_) (fun hf => ?_)
              · cases ht
              · repeat (first
                    | refine tr_seq_k fun _ _ => ?_
                    | (refine tr_region ?_; simp only [go_sem, List.getElem?_toArray, str_beq, reduceCtorEq, Nat.reduceEqDiff, Nat.reduceLT, Nat.reduceLeDiff, Nat.reduceAdd, Nat.reduceMul, Nat.reduceSub, Nat.reduceBEq, ↓reduceIte, bne_self_eq_false, Bool.and_false, Bool.false_and, Bool.true_or, Bool.false_or, hD0, hD1])
                    | (refine tr_drawM (id := 24) follows [0, 0, 3, 7, 15, 15, 63, 127, 255, 511, 511, 2047, 4095, 8191, 16383, 16383, 65535, 131071, 262143, 524287, 524287, 1572863, 4194303, 524287, 524287, 17301503, 67108863, 134217727, 268435455, 536870911, 1073741823, 2147483647, 1073741823, 8589934591, 17179869183, 34359738367, 68719476735, 137438953471, 274877906943, 549755813887, 1099511627775, 2199023255551, 2199023255551, 6597069766655, 17592186044415, 35184372088831, 70368744177663] (by kernel_rfl) ?_; (try (rw [List.append_eq]; simp only [List.cons_append, List.nil_append])); simp (maxSteps := 4000000) only [go_sem, List.getElem?_toArray, str_beq, reduceCtorEq, Nat.reduceEqDiff, Nat.reduceLT, Nat.reduceLeDiff, Nat.reduceAdd, Nat.reduceMul, Nat.reduceSub, Nat.reduceBEq, ↓reduceIte, bne_self_eq_false, Bool.and_false, Bool.false_and, Bool.true_or, Bool.false_or, hD0, hD1])
                    | refine k_of (by assumption) ?_
                    | refine tr_block ?_
                    | refine tr_scope ?_
                    | (refine tr_skip ?_; try simp only [ex_seq, ex_block])
                    | (refine tr_label ?_; try simp only [ex_seq, ex_block])
                    | (refine tr_exit ?_; try simp only [ex_seq_exit, ex_block_exit, Nat.reduceEqDiff, if_true, if_false, ex_seq, ex_block, reduceCtorEq, ↓reduceIte])
                    | (refine tr_ret ?_; try simp only [ex_seq_ret, ex_block_ret]))
                refine tr_cond rfl (fun ht => ?_) (fun hf => ?_)
                · refine tr_seq_k fun _ _ => ?_
                  refine tr_sub (fr' := [(0, slR acC ex l), (3, .ptr bt 0), (4, .ptr br 0), (5, iA i), (6, .ptr m.hp.length 0)]) ⟨rfl, rfl, rfl, rfl, rfl, trivial⟩ ?_
                  refine tr_drawX (id := 17) follows otD (by kernel_rfl) [(0, slR acC ex l), (3, .ptr bt 0), (4, .ptr br 0), (5, iA i), (6, .ptr m.hp.length 0), (75, bA false)] mF ?_ ?_
                  · unfold otD
                    simp only [go_sem, List.getElem?_toArray, str_beq, reduceCtorEq, Nat.reduceEqDiff, Nat.reduceLT, Nat.reduceLeDiff, Nat.reduceAdd, Nat.reduceMul, Nat.reduceSub, Nat.reduceBEq, ↓reduceIte, bne_self_eq_false, Bool.and_false, Bool.false_and, Bool.true_or, Bool.false_or, hA1, hA2]
                    repeat' (first
                      | exact trivial
                      | (refine call_givesW (c1) ?_; (try dsimp only); (try simp only [go_sem, List.getElem?_toArray, str_beq, reduceCtorEq, Nat.reduceEqDiff, Nat.reduceLT, Nat.reduceLeDiff, Nat.reduceAdd, Nat.reduceMul, Nat.reduceSub, Nat.reduceBEq, ↓reduceIte, bne_self_eq_false, Bool.and_false, Bool.false_and, Bool.true_or, Bool.false_or, hA1, hA2]))
                      | (refine call_givesW (c2) ?_; (try dsimp only); (try simp only [go_sem, List.getElem?_toArray, str_beq, reduceCtorEq, Nat.reduceEqDiff, Nat.reduceLT, Nat.reduceLeDiff, Nat.reduceAdd, Nat.reduceMul, Nat.reduceSub, Nat.reduceBEq, ↓reduceIte, bne_self_eq_false, Bool.and_false, Bool.false_and, Bool.true_or, Bool.false_or, hA1, hA2]))
                      | refine And.intro ?_ ?_
                      | exact ⟨rfl, rfl, rfl, rfl, rfl, rfl, trivial⟩
                      | rfl)
                  · repeat (first
                        | refine tr_seq_k fun _ _ => ?_
                        | (refine tr_region ?_; simp only [go_sem, List.getElem?_toArray, str_beq, reduceCtorEq, Nat.reduceEqDiff, Nat.reduceLT, Nat.reduceLeDiff, Nat.reduceAdd, Nat.reduceMul, Nat.reduceSub, Nat.reduceBEq, ↓reduceIte, bne_self_eq_false, Bool.and_false, Bool.false_and, Bool.true_or, Bool.false_or])
                        | (refine tr_drawM (id := 24) follows [0, 0, 3, 7, 15, 15, 63, 127, 255, 511, 511, 2047, 4095, 8191, 16383, 16383, 65535, 131071, 262143, 524287, 524287, 1572863, 4194303, 524287, 524287, 17301503, 67108863, 134217727, 268435455, 536870911, 1073741823, 2147483647, 1073741823, 8589934591, 17179869183, 34359738367, 68719476735, 137438953471, 274877906943, 549755813887, 1099511627775, 2199023255551, 2199023255551, 6597069766655, 17592186044415, 35184372088831, 70368744177663] (by kernel_rfl) ?_; (try (rw [List.append_eq]; simp only [List.cons_append, List.nil_append])); simp (maxSteps := 4000000) only [go_sem, List.getElem?_toArray, str_beq, reduceCtorEq, Nat.reduceEqDiff, Nat.reduceLT, Nat.reduceLeDiff, Nat.reduceAdd, Nat.reduceMul, Nat.reduceSub, Nat.reduceBEq, ↓reduceIte, bne_self_eq_false, Bool.and_false, Bool.false_and, Bool.true_or, Bool.false_or])
                        | refine k_of (by assumption) ?_
                        | refine tr_block ?_
                        | refine tr_scope ?_
                        | (refine tr_skip ?_; try simp only [ex_seq, ex_block])
                        | (refine tr_label ?_; try simp only [ex_seq, ex_block])
                        | (refine tr_exit ?_; try simp only [ex_seq_exit, ex_block_exit, Nat.reduceEqDiff, if_true, if_false, ex_seq, ex_block, reduceCtorEq, ↓reduceIte])
                        | (refine tr_ret ?_; try simp only [ex_seq_ret, ex_block_ret]))
                    refine tr_cond rfl (fun ht => ?_) (fun hf => ?_)
                    · cases ht
                    · have cT := text_tab tF.tab n
                      have cU := rtext_gives tF.ref n
                      have cF := find_tab tF.tab s
                      have cG := rfind_gives tF.ref tF.wf (by have := fF.len; omega) s
                      have cE : GivesW Try.prog 24 [.ptr bt 0, iA 100] mF (.tup [slR exC (decide (exL E' = [])) (exL E'), bA true]) mF := entries_gives tF.tab (by have := fF.len; omega) (fun e he => Nat.le_trans (fF.size e he) (by decide)) (most := 100) (by have := exL_le E'; rw [exL_len] at this; have := fF.len; omega) (by decide)
                      have cH := uses_tab tF.tab n
                      have cI := ruses_gives tF.ref n
                      have cJ := len_tab tF.tab
                      have cK := rlen_gives tF.ref tF.wf (by have := fF.len; omega)
                      have cL := each_gives tF.ref tF.wf (by have := fF.len; omega)
                      have cM := sameX_does (exL E') (exL E') (decide (exL E' = [])) (exL E').isEmpty (by have := exL_le E'; have := fF.len; omega)
                      rw [decide_eq_true rfl] at cM
                      generalize textS E' n = v1 at *
                      generalize (if hasS E' n = true then (0 : Int) else 13) = v2 at *
                      generalize (((findS E' s).getD 0 : Nat) : Int) = v3 at *
                      generalize (findS E' s).isSome = v4 at *
                      generalize ((usesS E' n : Nat) : Int) = v5 at *
                      generalize ((liveN E' : Nat) : Int) = v6 at *
                      repeat (first
                          | refine tr_seq_k fun _ _ => ?_
                          | (refine tr_region ?_; simp only [go_sem, List.getElem?_toArray, str_beq, reduceCtorEq, Nat.reduceEqDiff, Nat.reduceLT, Nat.reduceLeDiff, Nat.reduceAdd, Nat.reduceMul, Nat.reduceSub, Nat.reduceBEq, ↓reduceIte, bne_self_eq_false, Bool.and_false, Bool.false_and, Bool.true_or, Bool.false_or, hA6, bne_self_eq_false, beq_self_eq_true, bin_neBo v4])
                          | (refine tr_drawM (id := 24) follows [0, 0, 3, 7, 15, 15, 63, 127, 255, 511, 511, 2047, 4095, 8191, 16383, 16383, 65535, 131071, 262143, 524287, 524287, 1572863, 4194303, 524287, 524287, 17301503, 67108863, 134217727, 268435455, 536870911, 1073741823, 2147483647, 1073741823, 8589934591, 17179869183, 34359738367, 68719476735, 137438953471, 274877906943, 549755813887, 1099511627775, 2199023255551, 2199023255551, 6597069766655, 17592186044415, 35184372088831, 70368744177663] (by kernel_rfl) ?_; (try (rw [List.append_eq]; simp only [List.cons_append, List.nil_append])); simp (maxSteps := 4000000) only [go_sem, List.getElem?_toArray, str_beq, reduceCtorEq, Nat.reduceEqDiff, Nat.reduceLT, Nat.reduceLeDiff, Nat.reduceAdd, Nat.reduceMul, Nat.reduceSub, Nat.reduceBEq, ↓reduceIte, bne_self_eq_false, Bool.and_false, Bool.false_and, Bool.true_or, Bool.false_or, hA6, bne_self_eq_false, beq_self_eq_true, bin_neBo v4])
                          | (refine call_givesW (cT) ?_; (try dsimp only); (try simp only [go_sem, List.getElem?_toArray, str_beq, reduceCtorEq, Nat.reduceEqDiff, Nat.reduceLT, Nat.reduceLeDiff, Nat.reduceAdd, Nat.reduceMul, Nat.reduceSub, Nat.reduceBEq, ↓reduceIte, bne_self_eq_false, Bool.and_false, Bool.false_and, Bool.true_or, Bool.false_or, hA6, bne_self_eq_false, beq_self_eq_true, bin_neBo v4]))
                          | (refine call_givesW (cU) ?_; (try dsimp only); (try simp only [go_sem, List.getElem?_toArray, str_beq, reduceCtorEq, Nat.reduceEqDiff, Nat.reduceLT, Nat.reduceLeDiff, Nat.reduceAdd, Nat.reduceMul, Nat.reduceSub, Nat.reduceBEq, ↓reduceIte, bne_self_eq_false, Bool.and_false, Bool.false_and, Bool.true_or, Bool.false_or, hA6, bne_self_eq_false, beq_self_eq_true, bin_neBo v4]))
                          | (refine call_givesW (cF) ?_; (try dsimp only); (try simp only [go_sem, List.getElem?_toArray, str_beq, reduceCtorEq, Nat.reduceEqDiff, Nat.reduceLT, Nat.reduceLeDiff, Nat.reduceAdd, Nat.reduceMul, Nat.reduceSub, Nat.reduceBEq, ↓reduceIte, bne_self_eq_false, Bool.and_false, Bool.false_and, Bool.true_or, Bool.false_or, hA6, bne_self_eq_false, beq_self_eq_true, bin_neBo v4]))
                          | (refine call_givesW (cG) ?_; (try dsimp only); (try simp only [go_sem, List.getElem?_toArray, str_beq, reduceCtorEq, Nat.reduceEqDiff, Nat.reduceLT, Nat.reduceLeDiff, Nat.reduceAdd, Nat.reduceMul, Nat.reduceSub, Nat.reduceBEq, ↓reduceIte, bne_self_eq_false, Bool.and_false, Bool.false_and, Bool.true_or, Bool.false_or, hA6, bne_self_eq_false, beq_self_eq_true, bin_neBo v4]))
                          | (refine call_givesW (cE) ?_; (try dsimp only); (try simp only [go_sem, List.getElem?_toArray, str_beq, reduceCtorEq, Nat.reduceEqDiff, Nat.reduceLT, Nat.reduceLeDiff, Nat.reduceAdd, Nat.reduceMul, Nat.reduceSub, Nat.reduceBEq, ↓reduceIte, bne_self_eq_false, Bool.and_false, Bool.false_and, Bool.true_or, Bool.false_or, hA6, bne_self_eq_false, beq_self_eq_true, bin_neBo v4]))
                          | (refine call_givesW (cH) ?_; (try dsimp only); (try simp only [go_sem, List.getElem?_toArray, str_beq, reduceCtorEq, Nat.reduceEqDiff, Nat.reduceLT, Nat.reduceLeDiff, Nat.reduceAdd, Nat.reduceMul, Nat.reduceSub, Nat.reduceBEq, ↓reduceIte, bne_self_eq_false, Bool.and_false, Bool.false_and, Bool.true_or, Bool.false_or, hA6, bne_self_eq_false, beq_self_eq_true, bin_neBo v4]))
                          | (refine call_givesW (cI) ?_; (try dsimp only); (try simp only [go_sem, List.getElem?_toArray, str_beq, reduceCtorEq, Nat.reduceEqDiff, Nat.reduceLT, Nat.reduceLeDiff, Nat.reduceAdd, Nat.reduceMul, Nat.reduceSub, Nat.reduceBEq, ↓reduceIte, bne_self_eq_false, Bool.and_false, Bool.false_and, Bool.true_or, Bool.false_or, hA6, bne_self_eq_false, beq_self_eq_true, bin_neBo v4]))
                          | (refine call_givesW (cJ) ?_; (try dsimp only); (try simp only [go_sem, List.getElem?_toArray, str_beq, reduceCtorEq, Nat.reduceEqDiff, Nat.reduceLT, Nat.reduceLeDiff, Nat.reduceAdd, Nat.reduceMul, Nat.reduceSub, Nat.reduceBEq, ↓reduceIte, bne_self_eq_false, Bool.and_false, Bool.false_and, Bool.true_or, Bool.false_or, hA6, bne_self_eq_false, beq_self_eq_true, bin_neBo v4]))
                          | (refine call_givesW (cK) ?_; (try dsimp only); (try simp only [go_sem, List.getElem?_toArray, str_beq, reduceCtorEq, Nat.reduceEqDiff, Nat.reduceLT, Nat.reduceLeDiff, Nat.reduceAdd, Nat.reduceMul, Nat.reduceSub, Nat.reduceBEq, ↓reduceIte, bne_self_eq_false, Bool.and_false, Bool.false_and, Bool.true_or, Bool.false_or, hA6, bne_self_eq_false, beq_self_eq_true, bin_neBo v4]))
                          | (refine call_givesW (cL) ?_; (try dsimp only); (try simp only [go_sem, List.getElem?_toArray, str_beq, reduceCtorEq, Nat.reduceEqDiff, Nat.reduceLT, Nat.reduceLeDiff, Nat.reduceAdd, Nat.reduceMul, Nat.reduceSub, Nat.reduceBEq, ↓reduceIte, bne_self_eq_false, Bool.and_false, Bool.false_and, Bool.true_or, Bool.false_or, hA6, bne_self_eq_false, beq_self_eq_true, bin_neBo v4]))
                          | (refine call_of (cM) ?_ ?_
                             · first | rfl | simp only [go_sem, List.getElem?_toArray, str_beq, reduceCtorEq, Nat.reduceEqDiff, Nat.reduceLT, Nat.reduceLeDiff, Nat.reduceAdd, Nat.reduceMul, Nat.reduceSub, Nat.reduceBEq, ↓reduceIte, bne_self_eq_false, Bool.and_false, Bool.false_and, Bool.true_or, Bool.false_or, hA6, bne_self_eq_false, beq_self_eq_true, bin_neBo v4, shut_col]
                             simp only [go_sem, List.getElem?_toArray, str_beq, reduceCtorEq, Nat.reduceEqDiff, Nat.reduceLT, Nat.reduceLeDiff, Nat.reduceAdd, Nat.reduceMul, Nat.reduceSub, Nat.reduceBEq, ↓reduceIte, bne_self_eq_false, Bool.and_false, Bool.false_and, Bool.true_or, Bool.false_or, hA6, bne_self_eq_false, beq_self_eq_true, bin_neBo v4])
                          | refine k_of (by assumption) ?_
                          | refine tr_block ?_
                          | refine tr_scope ?_
                          | (refine tr_skip ?_; try simp only [ex_seq, ex_block])
                          | (refine tr_label ?_; try simp only [ex_seq, ex_block])
                          | (refine tr_exit ?_; try simp only [ex_seq_exit, ex_block_exit, Nat.reduceEqDiff, if_true, if_false, ex_seq, ex_block, reduceCtorEq, ↓reduceIte])
                          | (refine tr_ret ?_; try simp only [ex_seq_ret, ex_block_ret]))
                      refine tr_cond rfl (fun ht => ?_) (fun hf => ?_)
                      · cases ht
                      · repeat (first
                            | refine tr_seq_k fun _ _ => ?_
                            | (refine tr_region ?_; simp only [go_sem, List.getElem?_toArray, str_beq, reduceCtorEq, Nat.reduceEqDiff, Nat.reduceLT, Nat.reduceLeDiff, Nat.reduceAdd, Nat.reduceMul, Nat.reduceSub, Nat.reduceBEq, ↓reduceIte, bne_self_eq_false, Bool.and_false, Bool.false_and, Bool.true_or, Bool.false_or, ws])
                            | (refine tr_drawM (id := 24) follows [0, 0, 3, 7, 15, 15, 63, 127, 255, 511, 511, 2047, 4095, 8191, 16383, 16383, 65535, 131071, 262143, 524287, 524287, 1572863, 4194303, 524287, 524287, 17301503, 67108863, 134217727, 268435455, 536870911, 1073741823, 2147483647, 1073741823, 8589934591, 17179869183, 34359738367, 68719476735, 137438953471, 274877906943, 549755813887, 1099511627775, 2199023255551, 2199023255551, 6597069766655, 17592186044415, 35184372088831, 70368744177663] (by kernel_rfl) ?_; (try (rw [List.append_eq]; simp only [List.cons_append, List.nil_append])); simp (maxSteps := 4000000) only [go_sem, List.getElem?_toArray, str_beq, reduceCtorEq, Nat.reduceEqDiff, Nat.reduceLT, Nat.reduceLeDiff, Nat.reduceAdd, Nat.reduceMul, Nat.reduceSub, Nat.reduceBEq, ↓reduceIte, bne_self_eq_false, Bool.and_false, Bool.false_and, Bool.true_or, Bool.false_or, ws])
                            | refine k_of (by assumption) ?_
                            | refine tr_block ?_
                            | refine tr_scope ?_
                            | (refine tr_skip ?_; try simp only [ex_seq, ex_block])
                            | (refine tr_label ?_; try simp only [ex_seq, ex_block])
                            | (refine tr_exit ?_; try simp only [ex_seq_exit, ex_block_exit, Nat.reduceEqDiff, if_true, if_false, ex_seq, ex_block, reduceCtorEq, ↓reduceIte])
                            | (refine tr_ret ?_; try simp only [ex_seq_ret, ex_block_ret]))
                        exact hK (mF, S1', S2', E', i + 1) _ _ ⟨tF, fF, hlt, hLF, hwF⟩ ⟨⟨rfl, rfl, rfl, rfl, trivial⟩, Keep.refl _, lowS tF.tab.lt tF.ref.lt, tF.wf, hLF, by dsimp only; rw [hwF]; exact Nat.le_refl _⟩ (by dsimp only; omega)
                · cases hf
            · rw [hp0] at cP
              have hD0 : decide ((2 : Int) = 0) = false := rfl
              have hD1 : decide ((2 : Int) = 1) = false := rfl
              obtain ⟨mF, hmF⟩ : ∃ mF, mF = m1 := ⟨_, rfl⟩
              obtain ⟨E', hE'⟩ : ∃ E', E' = E := ⟨_, rfl⟩
              have tF := tw1
              have hA6 := hA1
              have fF := fn.mono (Nat.le_succ i)
              have hLF := hL1
              have hwF := hw1
              obtain ⟨S1', hS1'⟩ : ∃ S2', S2' = S1 := ⟨_, rfl⟩
              obtain ⟨S2', hS2'⟩ : ∃ S2', S2' = S2 := ⟨_, rfl⟩
              rw [← hS2', ← hS1', ← hE', ← hmF] at tF
              rw [← hmF] at hA6 hLF hwF
              rw [← hE'] at fF
              repeat (first
                  | refine tr_seq_k fun _ _ => ?_
                  | (refine tr_region ?_; simp only [go_sem, List.getElem?_toArray, str_beq, reduceCtorEq, Nat.reduceEqDiff, Nat.reduceLT, Nat.reduceLeDiff, Nat.reduceAdd, Nat.reduceMul, Nat.reduceSub, Nat.reduceBEq, ↓reduceIte, bne_self_eq_false, Bool.and_false, Bool.false_and, Bool.true_or, Bool.false_or, ix, d1, gA, gS, gM, hA1, hD0, hD1])
                  | (refine tr_drawM (id := 24) follows [0, 0, 3, 7, 15, 15, 63, 127, 255, 511, 511, 2047, 4095, 8191, 16383, 16383, 65535, 131071, 262143, 524287, 524287, 1572863, 4194303, 524287, 524287, 17301503, 67108863, 134217727, 268435455, 536870911, 1073741823, 2147483647, 1073741823, 8589934591, 17179869183, 34359738367, 68719476735, 137438953471, 274877906943, 549755813887, 1099511627775, 2199023255551, 2199023255551, 6597069766655, 17592186044415, 35184372088831, 70368744177663] (by kernel_rfl) ?_; (try (rw [List.append_eq]; simp only [List.cons_append, List.nil_append])); simp (maxSteps := 4000000) only [go_sem, List.getElem?_toArray, str_beq, reduceCtorEq, Nat.reduceEqDiff, Nat.reduceLT, Nat.reduceLeDiff, Nat.reduceAdd, Nat.reduceMul, Nat.reduceSub, Nat.reduceBEq, ↓reduceIte, bne_self_eq_false, Bool.and_false, Bool.false_and, Bool.true_or, Bool.false_or, ix, d1, gA, gS, gM, hA1, hD0, hD1])
                  | (refine call_of (cP) ?_ ?_
                     · first | rfl | simp only [go_sem, List.getElem?_toArray, str_beq, reduceCtorEq, Nat.reduceEqDiff, Nat.reduceLT, Nat.reduceLeDiff, Nat.reduceAdd, Nat.reduceMul, Nat.reduceSub, Nat.reduceBEq, ↓reduceIte, bne_self_eq_false, Bool.and_false, Bool.false_and, Bool.true_or, Bool.false_or, ix, d1, gA, gS, gM, hA1, hD0, hD1, shut_col]
                     simp only [go_sem, List.getElem?_toArray, str_beq, reduceCtorEq, Nat.reduceEqDiff, Nat.reduceLT, Nat.reduceLeDiff, Nat.reduceAdd, Nat.reduceMul, Nat.reduceSub, Nat.reduceBEq, ↓reduceIte, bne_self_eq_false, Bool.and_false, Bool.false_and, Bool.true_or, Bool.false_or, ix, d1, gA, gS, gM, hA1, hD0, hD1])
                  | refine k_of (by assumption) ?_
                  | refine tr_block ?_
                  | refine tr_scope ?_
                  | (refine tr_skip ?_; try simp only [ex_seq, ex_block])
                  | (refine tr_label ?_; try simp only [ex_seq, ex_block])
                  | (refine tr_exit ?_; try simp only [ex_seq_exit, ex_block_exit, Nat.reduceEqDiff, if_true, if_false, ex_seq, ex_block, reduceCtorEq, ↓reduceIte])
                  | (refine tr_ret ?_; try simp only [ex_seq_ret, ex_block_ret]))
              refine tr_cond rfl (fun ht => ?_) (fun hf => ?_)
              · cases ht
              · repeat (first
                    | refine tr_seq_k fun _ _ => ?_
                    | (refine tr_region ?_; simp only [go_sem, List.getElem?_toArray, str_beq, reduceCtorEq, Nat.reduceEqDiff, Nat.reduceLT, Nat.reduceLeDiff, Nat.reduceAdd, Nat.reduceMul, Nat.reduceSub, Nat.reduceBEq, ↓reduceIte, bne_self_eq_false, Bool.and_false, Bool.false_and, Bool.true_or, Bool.false_or, hD0, hD1])
                    | (refine tr_drawM (id := 24) follows [0, 0, 3, 7, 15, 15, 63, 127, 255, 511, 511, 2047, 4095, 8191, 16383, 16383, 65535, 131071, 262143, 524287, 524287, 1572863, 4194303, 524287, 524287, 17301503, 67108863, 134217727, 268435455, 536870911, 1073741823, 2147483647, 1073741823, 8589934591, 17179869183, 34359738367, 68719476735, 137438953471, 274877906943, 549755813887, 1099511627775, 2199023255551, 2199023255551, 6597069766655, 17592186044415, 35184372088831, 70368744177663] (by kernel_rfl) ?_; (try (rw [List.append_eq]; simp only [List.cons_append, List.nil_append])); simp (maxSteps := 4000000) only [go_sem, List.getElem?_toArray, str_beq, reduceCtorEq, Nat.reduceEqDiff, Nat.reduceLT, Nat.reduceLeDiff, Nat.reduceAdd, Nat.reduceMul, Nat.reduceSub, Nat.reduceBEq, ↓reduceIte, bne_self_eq_false, Bool.and_false, Bool.false_and, Bool.true_or, Bool.false_or, hD0, hD1])
                    | refine k_of (by assumption) ?_
                    | refine tr_block ?_
                    | refine tr_scope ?_
                    | (refine tr_skip ?_; try simp only [ex_seq, ex_block])
                    | (refine tr_label ?_; try simp only [ex_seq, ex_block])
                    | (refine tr_exit ?_; try simp only [ex_seq_exit, ex_block_exit, Nat.reduceEqDiff, if_true, if_false, ex_seq, ex_block, reduceCtorEq, ↓reduceIte])
                    | (refine tr_ret ?_; try simp only [ex_seq_ret, ex_block_ret]))
                refine tr_cond rfl (fun ht => ?_) (fun hf => ?_)
                · cases ht
                · rw [← hmF]
                  have cT := text_tab tF.tab n
                  have cU := rtext_gives tF.ref n
                  have cF := find_tab tF.tab s
                  have cG := rfind_gives tF.ref tF.wf (by have := fF.len; omega) s
                  have cE : GivesW Try.prog 24 [.ptr bt 0, iA 100] mF (.tup [slR exC (decide (exL E' = [])) (exL E'), bA true]) mF := entries_gives tF.tab (by have := fF.len; omega) (fun e he => Nat.le_trans (fF.size e he) (by decide)) (most := 100) (by have := exL_le E'; rw [exL_len] at this; have := fF.len; omega) (by decide)
                  have cH := uses_tab tF.tab n
                  have cI := ruses_gives tF.ref n
                  have cJ := len_tab tF.tab
                  have cK := rlen_gives tF.ref tF.wf (by have := fF.len; omega)
                  have cL := each_gives tF.ref tF.wf (by have := fF.len; omega)
                  have cM := sameX_does (exL E') (exL E') (decide (exL E' = [])) (exL E').isEmpty (by have := exL_le E'; have := fF.len; omega)
                  rw [decide_eq_true rfl] at cM
                  generalize textS E' n = v1 at *
                  generalize (if hasS E' n = true then (0 : Int) else 13) = v2 at *
                  generalize (((findS E' s).getD 0 : Nat) : Int) = v3 at *
                  generalize (findS E' s).isSome = v4 at *
                  generalize ((usesS E' n : Nat) : Int) = v5 at *
                  generalize ((liveN E' : Nat) : Int) = v6 at *
                  repeat (first
                      | refine tr_seq_k fun _ _ => ?_
                      | (refine tr_region ?_; simp only [go_sem, List.getElem?_toArray, str_beq, reduceCtorEq, Nat.reduceEqDiff, Nat.reduceLT, Nat.reduceLeDiff, Nat.reduceAdd, Nat.reduceMul, Nat.reduceSub, Nat.reduceBEq, ↓reduceIte, bne_self_eq_false, Bool.and_false, Bool.false_and, Bool.true_or, Bool.false_or, hA6, bne_self_eq_false, beq_self_eq_true, bin_neBo v4])
                      | (refine tr_drawM (id := 24) follows [0, 0, 3, 7, 15, 15, 63, 127, 255, 511, 511, 2047, 4095, 8191, 16383, 16383, 65535, 131071, 262143, 524287, 524287, 1572863, 4194303, 524287, 524287, 17301503, 67108863, 134217727, 268435455, 536870911, 1073741823, 2147483647, 1073741823, 8589934591, 17179869183, 34359738367, 68719476735, 137438953471, 274877906943, 549755813887, 1099511627775, 2199023255551, 2199023255551, 6597069766655, 17592186044415, 35184372088831, 70368744177663] (by kernel_rfl) ?_; (try (rw [List.append_eq]; simp only [List.cons_append, List.nil_append])); simp (maxSteps := 4000000) only [go_sem, List.getElem?_toArray, str_beq, reduceCtorEq, Nat.reduceEqDiff, Nat.reduceLT, Nat.reduceLeDiff, Nat.reduceAdd, Nat.reduceMul, Nat.reduceSub, Nat.reduceBEq, ↓reduceIte, bne_self_eq_false, Bool.and_false, Bool.false_and, Bool.true_or, Bool.false_or, hA6, bne_self_eq_false, beq_self_eq_true, bin_neBo v4])
                      | (refine call_givesW (cT) ?_; (try dsimp only); (try simp only [go_sem, List.getElem?_toArray, str_beq, reduceCtorEq, Nat.reduceEqDiff, Nat.reduceLT, Nat.reduceLeDiff, Nat.reduceAdd, Nat.reduceMul, Nat.reduceSub, Nat.reduceBEq, ↓reduceIte, bne_self_eq_false, Bool.and_false, Bool.false_and, Bool.true_or, Bool.false_or, hA6, bne_self_eq_false, beq_self_eq_true, bin_neBo v4]))
                      | (refine call_givesW (cU) ?_; (try dsimp only); (try simp only [go_sem, List.getElem?_toArray, str_beq, reduceCtorEq, Nat.reduceEqDiff, Nat.reduceLT, Nat.reduceLeDiff, Nat.reduceAdd, Nat.reduceMul, Nat.reduceSub, Nat.reduceBEq, ↓reduceIte, bne_self_eq_false, Bool.and_false, Bool.false_and, Bool.true_or, Bool.false_or, hA6, bne_self_eq_false, beq_self_eq_true, bin_neBo v4]))
                      | (refine call_givesW (cF) ?_; (try dsimp only); (try simp only [go_sem, List.getElem?_toArray, str_beq, reduceCtorEq, Nat.reduceEqDiff, Nat.reduceLT, Nat.reduceLeDiff, Nat.reduceAdd, Nat.reduceMul, Nat.reduceSub, Nat.reduceBEq, ↓reduceIte, bne_self_eq_false, Bool.and_false, Bool.false_and, Bool.true_or, Bool.false_or, hA6, bne_self_eq_false, beq_self_eq_true, bin_neBo v4]))
                      | (refine call_givesW (cG) ?_; (try dsimp only); (try simp only [go_sem, List.getElem?_toArray, str_beq, reduceCtorEq, Nat.reduceEqDiff, Nat.reduceLT, Nat.reduceLeDiff, Nat.reduceAdd, Nat.reduceMul, Nat.reduceSub, Nat.reduceBEq, ↓reduceIte, bne_self_eq_false, Bool.and_false, Bool.false_and, Bool.true_or, Bool.false_or, hA6, bne_self_eq_false, beq_self_eq_true, bin_neBo v4]))
                      | (refine call_givesW (cE) ?_; (try dsimp only); (try simp only [go_sem, List.getElem?_toArray, str_beq, reduceCtorEq, Nat.reduceEqDiff, Nat.reduceLT, Nat.reduceLeDiff, Nat.reduceAdd, Nat.reduceMul, Nat.reduceSub, Nat.reduceBEq, ↓reduceIte, bne_self_eq_false, Bool.and_false, Bool.false_and, Bool.true_or, Bool.false_or, hA6, bne_self_eq_false, beq_self_eq_true, bin_neBo v4]))
                      | (refine call_givesW (cH) ?_; (try dsimp only); (try simp only [go_sem, List.getElem?_toArray, str_beq, reduceCtorEq, Nat.reduceEqDiff, Nat.reduceLT, Nat.reduceLeDiff, Nat.reduceAdd, Nat.reduceMul, Nat.reduceSub, Nat.reduceBEq, ↓reduceIte, bne_self_eq_false, Bool.and_false, Bool.false_and, Bool.true_or, Bool.false_or, hA6, bne_self_eq_false, beq_self_eq_true, bin_neBo v4]))
                      | (refine call_givesW (cI) ?_; (try dsimp only); (try simp only [go_sem, List.getElem?_toArray, str_beq, reduceCtorEq, Nat.reduceEqDiff, Nat.reduceLT, Nat.reduceLeDiff, Nat.reduceAdd, Nat.reduceMul, Nat.reduceSub, Nat.reduceBEq, ↓reduceIte, bne_self_eq_false, Bool.and_false, Bool.false_and, Bool.true_or, Bool.false_or, hA6, bne_self_eq_false, beq_self_eq_true, bin_neBo v4]))
                      | (refine call_givesW (cJ) ?_; (try dsimp only); (try simp only [go_sem, List.getElem?_toArray, str_beq, reduceCtorEq, Nat.reduceEqDiff, Nat.reduceLT, Nat.reduceLeDiff, Nat.reduceAdd, Nat.reduceMul, Nat.reduceSub, Nat.reduceBEq, ↓reduceIte, bne_self_eq_false, Bool.and_false, Bool.false_and, Bool.true_or, Bool.false_or, hA6, bne_self_eq_false, beq_self_eq_true, bin_neBo v4]))
                      | (refine call_givesW (cK) ?_; (try dsimp only); (try simp only [go_sem, List.getElem?_toArray, str_beq, reduceCtorEq, Nat.reduceEqDiff, Nat.reduceLT, Nat.reduceLeDiff, Nat.reduceAdd, Nat.reduceMul, Nat.reduceSub, Nat.reduceBEq, ↓reduceIte, bne_self_eq_false, Bool.and_false, Bool.false_and, Bool.true_or, Bool.false_or, hA6, bne_self_eq_false, beq_self_eq_true, bin_neBo v4]))
                      | (refine call_givesW (cL) ?_; (try dsimp only); (try simp only [go_sem, List.getElem?_toArray, str_beq, reduceCtorEq, Nat.reduceEqDiff, Nat.reduceLT, Nat.reduceLeDiff, Nat.reduceAdd, Nat.reduceMul, Nat.reduceSub, Nat.reduceBEq, ↓reduceIte, bne_self_eq_false, Bool.and_false, Bool.false_and, Bool.true_or, Bool.false_or, hA6, bne_self_eq_false, beq_self_eq_true, bin_neBo v4]))
                      | (refine call_of (cM) ?_ ?_
                         · first | rfl | simp only [go_sem, List.getElem?_toArray, str_beq, reduceCtorEq, Nat.reduceEqDiff, Nat.reduceLT, Nat.reduceLeDiff, Nat.reduceAdd, Nat.reduceMul, Nat.reduceSub, Nat.reduceBEq, ↓reduceIte, bne_self_eq_false, Bool.and_false, Bool.false_and, Bool.true_or, Bool.false_or, hA6, bne_self_eq_false, beq_self_eq_true, bin_neBo v4, shut_col]
                         simp only [go_sem, List.getElem?_toArray, str_beq, reduceCtorEq, Nat.reduceEqDiff, Nat.reduceLT, Nat.reduceLeDiff, Nat.reduceAdd, Nat.reduceMul, Nat.reduceSub, Nat.reduceBEq, ↓reduceIte, bne_self_eq_false, Bool.and_false, Bool.false_and, Bool.true_or, Bool.false_or, hA6, bne_self_eq_false, beq_self_eq_true, bin_neBo v4])
                      | refine k_of (by assumption) ?_
                      | refine tr_block ?_
                      | refine tr_scope ?_
                      | (refine tr_skip ?_; try simp only [ex_seq, ex_block])
                      | (refine tr_label ?_; try simp only [ex_seq, ex_block])
                      | (refine tr_exit ?_; try simp only [ex_seq_exit, ex_block_exit, Nat.reduceEqDiff, if_true, if_false, ex_seq, ex_block, reduceCtorEq, ↓reduceIte])
                      | (refine tr_ret ?_; try simp only [ex_seq_ret, ex_block_ret]))
                  refine tr_cond rfl (fun ht => ?_) (fun hf => ?_)
                  · cases ht
                  · repeat (first
                        | refine tr_seq_k fun _ _ => ?_
                        | (refine tr_region ?_; simp only [go_sem, List.getElem?_toArray, str_beq, reduceCtorEq, Nat.reduceEqDiff, Nat.reduceLT, Nat.reduceLeDiff, Nat.reduceAdd, Nat.reduceMul, Nat.reduceSub, Nat.reduceBEq, ↓reduceIte, bne_self_eq_false, Bool.and_false, Bool.false_and, Bool.true_or, Bool.false_or, ws])
                        | (refine tr_drawM (id := 24) follows [0, 0, 3, 7, 15, 15, 63, 127, 255, 511, 511, 2047, 4095, 8191, 16383, 16383, 65535, 131071, 262143, 524287, 524287, 1572863, 4194303, 524287, 524287, 17301503, 67108863, 134217727, 268435455, 536870911, 1073741823, 2147483647, 1073741823, 8589934591, 17179869183, 34359738367, 68719476735, 137438953471, 274877906943, 549755813887, 1099511627775, 2199023255551, 2199023255551, 6597069766655, 17592186044415, 35184372088831, 70368744177663] (by kernel_rfl) ?_; (try (rw [List.append_eq]; simp only [List.cons_append, List.nil_append])); simp (maxSteps := 4000000) only [go_sem, List.getElem?_toArray, str_beq, reduceCtorEq, Nat.reduceEqDiff, Nat.reduceLT, Nat.reduceLeDiff, Nat.reduceAdd, Nat.reduceMul, Nat.reduceSub, Nat.reduceBEq, ↓reduceIte, bne_self_eq_false, Bool.and_false, Bool.false_and, Bool.true_or, Bool.false_or, ws])
                        | refine k_of (by assumption) ?_
                        | refine tr_block ?_
                        | refine tr_scope ?_
                        | (refine tr_skip ?_; try simp only [ex_seq, ex_block])
                        | (refine tr_label ?_; try simp only [ex_seq, ex_block])
                        | (refine tr_exit ?_; try simp only [ex_seq_exit, ex_block_exit, Nat.reduceEqDiff, if_true, if_false, ex_seq, ex_block, reduceCtorEq, ↓reduceIte])
                        | (refine tr_ret ?_; try simp only [ex_seq_ret, ex_block_ret]))
                    exact hK (mF, S1', S2', E', i + 1) _ _ ⟨tF, fF, hlt, hLF, hwF⟩ ⟨⟨rfl, rfl, rfl, rfl, trivial⟩, Keep.refl _, lowS tF.tab.lt tF.ref.lt, tF.wf, hLF, by dsimp only; rw [hwF]; exact Nat.le_refl _⟩ (by dsimp only; omega)
          · cases hf
        · have d1 : decide ((i : Int) < (l.length : Nat)) = false := decide_eq_false (by omega)
          repeat (first
              | refine tr_seq_k fun _ _ => ?_
              | (refine tr_region ?_; simp only [go_sem, List.getElem?_toArray, str_beq, reduceCtorEq, Nat.reduceEqDiff, Nat.reduceLT, Nat.reduceLeDiff, Nat.reduceAdd, Nat.reduceMul, Nat.reduceSub, Nat.reduceBEq, ↓reduceIte, bne_self_eq_false, Bool.and_false, Bool.false_and, Bool.true_or, Bool.false_or, d1])
              | (refine tr_drawM (id := 24) follows [0, 0, 3, 7, 15, 15, 63, 127, 255, 511, 511, 2047, 4095, 8191, 16383, 16383, 65535, 131071, 262143, 524287, 524287, 1572863, 4194303, 524287, 524287, 17301503, 67108863, 134217727, 268435455, 536870911, 1073741823, 2147483647, 1073741823, 8589934591, 17179869183, 34359738367, 68719476735, 137438953471, 274877906943, 549755813887, 1099511627775, 2199023255551, 2199023255551, 6597069766655, 17592186044415, 35184372088831, 70368744177663] (by kernel_rfl) ?_; (try (rw [List.append_eq]; simp only [List.cons_append, List.nil_append])); simp (maxSteps := 4000000) only [go_sem, List.getElem?_toArray, str_beq, reduceCtorEq, Nat.reduceEqDiff, Nat.reduceLT, Nat.reduceLeDiff, Nat.reduceAdd, Nat.reduceMul, Nat.reduceSub, Nat.reduceBEq, ↓reduceIte, bne_self_eq_false, Bool.and_false, Bool.false_and, Bool.true_or, Bool.false_or, d1])
              | refine k_of (by assumption) ?_
              | refine tr_block ?_
              | refine tr_scope ?_
              | (refine tr_skip ?_; try simp only [ex_seq, ex_block])
              | (refine tr_label ?_; try simp only [ex_seq, ex_block])
              | (refine tr_exit ?_; try simp only [ex_seq_exit, ex_block_exit, Nat.reduceEqDiff, if_true, if_false, ex_seq, ex_block, reduceCtorEq, ↓reduceIte])
              | (refine tr_ret ?_; try simp only [ex_seq_ret, ex_block_ret]))
          refine tr_cond rfl (fun ht => ?_) (fun hf => ?_)
          · cases ht
          · repeat (first
                | refine tr_seq_k fun _ _ => ?_
                | (refine tr_region ?_; simp only [go_sem, List.getElem?_toArray, str_beq, reduceCtorEq, Nat.reduceEqDiff, Nat.reduceLT, Nat.reduceLeDiff, Nat.reduceAdd, Nat.reduceMul, Nat.reduceSub, Nat.reduceBEq, ↓reduceIte, bne_self_eq_false, Bool.and_false, Bool.false_and, Bool.true_or, Bool.false_or])
                | (refine tr_drawM (id := 24) follows [0, 0, 3, 7, 15, 15, 63, 127, 255, 511, 511, 2047, 4095, 8191, 16383, 16383, 65535, 131071, 262143, 524287, 524287, 1572863, 4194303, 524287, 524287, 17301503, 67108863, 134217727, 268435455, 536870911, 1073741823, 2147483647, 1073741823, 8589934591, 17179869183, 34359738367, 68719476735, 137438953471, 274877906943, 549755813887, 1099511627775, 2199023255551, 2199023255551, 6597069766655, 17592186044415, 35184372088831, 70368744177663] (by kernel_rfl) ?_; (try (rw [List.append_eq]; simp only [List.cons_append, List.nil_append])); simp (maxSteps := 4000000) only [go_sem, List.getElem?_toArray, str_beq, reduceCtorEq, Nat.reduceEqDiff, Nat.reduceLT, Nat.reduceLeDiff, Nat.reduceAdd, Nat.reduceMul, Nat.reduceSub, Nat.reduceBEq, ↓reduceIte, bne_self_eq_false, Bool.and_false, Bool.false_and, Bool.true_or, Bool.false_or])
                | refine k_of (by assumption) ?_
                | refine tr_block ?_
                | refine tr_scope ?_
                | (refine tr_skip ?_; try simp only [ex_seq, ex_block])
                | (refine tr_label ?_; try simp only [ex_seq, ex_block])
                | (refine tr_exit ?_; try simp only [ex_seq_exit, ex_block_exit, Nat.reduceEqDiff, if_true, if_false, ex_seq, ex_block, reduceCtorEq, ↓reduceIte])
                | (refine tr_ret ?_; try simp only [ex_seq_ret, ex_block_ret]))
            refine (hQ _ _ [bA true] ?_ (fun m => ?_)).2 <;> simp only [go_sem, List.getElem?_toArray, str_beq, reduceCtorEq, Nat.reduceEqDiff, Nat.reduceLT, Nat.reduceLeDiff, Nat.reduceAdd, Nat.reduceMul, Nat.reduceSub, Nat.reduceBEq, ↓reduceIte, bne_self_eq_false, Bool.and_false, Bool.false_and, Bool.true_or, Bool.false_or, Try.f5,]
end Go.Proofs.Ytlhlcfijpdknfaa

namespace Go.Proofs.Ytlhlcfijpdknfaa.script
open Go.ChangeShapes Go.WideShapes Go.ChangeAt Go.RowKit Go.Vs Go.Vs.Ab

theorem own : ownKnob Try.prog.godebug = none := by kernel_rfl
theorem laidOut : laidOutB Try.prog = true := by kernel_rfl
theorem readable : (Try.f5.params.toList.all fun t => Try.prog.readableRec t && decide (t < Try.prog.types.size)) = true := by kernel_rfl

theorem shape41 : shapeOf Try.prog 8 41 = some [.sl [.int, .str, .int]] := by kernel_rfl
theorem acD {d : Nat} {w : World} : Dec d w [.int, .str, .int] acC (fun _ => True) := fun cs t0 => by
  obtain ⟨c0, r0, rfl, h0, t1⟩ := all2_cons t0
  obtain ⟨c1, r1, rfl, h1, t2⟩ := all2_cons t1
  obtain ⟨c2, r2, rfl, h2, t3⟩ := all2_cons t2
  obtain rfl := all2_nil t3
  obtain ⟨x0, e0, _⟩ := dec_int h0
  obtain ⟨x1, e1, _⟩ := dec_str h1
  obtain ⟨x2, e2, _⟩ := dec_int h2
  exact ⟨⟨x0, x1, x2⟩, .cons e0 (.cons e1 (.cons e2 .nil)), trivial⟩
theorem rep_len {X : Mem} {T : Type} {enc : T → List CV} {ex : Bool} {l : List T} {v : Value} (h : Rep X (slR enc ex l) v) : l.length ≤ maxLen := by
  unfold slR at h
  cases h with
  | c h =>
    cases h with
    | sl hl _ hn hc he hx => exact Nat.le_trans hn hc.1

set_option maxRecDepth 100000 in
theorem lifted (os : Os) (started : os.Started) (H : Type) (enc : TypeId × Value → H) :
    ReturnsInHanded {} Try.checked os 5 .any (Rows.internScriptSpec.pre6 enc Try.prog Try.f5 Rows.internScriptRow.domain false) (Rows.internScriptSpec.post enc Try.prog Try.f5 false true false false) := by
  refine returnsInHanded_of_change (C := Try.checked) own started (by kernel_rfl) Try.func5
    (ChangeSpec.witness6 (enc := enc) (C := Try.checked) false ⟨#[], #[.slice none 0 0], []⟩ 8 (by kernel_rfl) (by kernel_rfl) (by kernel_rfl) (by kernel_rfl)) ?_
  intro W base args ds gs before hval0 hW hcnd _
  have hval : ∀ (j : Nat) t v, Try.f5.params[j]? = some t → args[j]? = some v → Value.okWide Try.prog W .any base t v := hval0
  have hW' := hW
  obtain ⟨p, q, hA0, hV, rfl, hfz, hnd⟩ := hW
  have hA : DataW.TrodAll enc Try.prog W 0 (fun _ => true) true Try.f5.params.toList args.toList ds p := hA0
  rw [Try.params5] at hA hval
  obtain ⟨v0, vs0, d0, ds0, p0, q0, hargs, rfl, rfl, h0, r0⟩ := trodAll_cons hA
  obtain ⟨rfl, rfl, rfl⟩ := trodAll_nil r0
  obtain rfl : args = #[v0] := by cases args; simp_all
  obtain ⟨rfl, rfl⟩ := trodVars_none hV
  obtain ⟨a0, R0, _⟩ := open_sl Try.underlying41 shape41 acD (hval 0 41 v0 rfl rfl) h0
  refine ((script_does a0 false (rep_len R0)).bool (Reps.cons R0 Reps.nil)).mono fun e W' ⟨he, hb⟩ => ?_
  subst he
  refine ⟨_, rfl, law_post (tb := 4) hW' rfl rfl laidOut (fun t ht => ?_) rfl Try.underlying4 hb⟩
  have := List.all_eq_true.1 readable t ht
  simp only [Bool.and_eq_true, decide_eq_true_eq] at this
  exact this

theorem holds : Rows.InternScriptSaid :=
  OpenClaim.holds_of_wide 5 Try.f5 rfl rfl rfl rfl rfl rfl rfl ⟨rfl, rfl, rfl, rfl, rfl⟩ rfl rfl rfl rfl rfl (by kernel_rfl) Try.func5 (by kernel_rfl)
    (of_decide_eq_true (by kernel_rfl)) (by unfold Func.isWrapper; first | (rw [if_pos (by decide +kernel)]; kernel_rfl) | (rw [if_neg (by decide +kernel)]; exact ⟨rfl, rfl⟩))
    (fun os started H enc _ => lifted os started H enc)
#print axioms holds
end Go.Proofs.Ytlhlcfijpdknfaa.script
