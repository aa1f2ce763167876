/-
  For every input the statement InternLeast returns true, and leaves its arguments as they were.
-/
import Derived.Test.YtlhlcfijpdknfaaInternLeastm1
import Derived.Test.YtlhlcfijpdknfaaAq
import Derived.Test.YtlhlcfijpdknfaaLaw
import Derived.Test.YtlhlcfijpdknfaaRows
/-
  Chapter 2: InternLeast, the walk.
-/
set_option linter.unusedSimpArgs false
set_option linter.unusedVariables false
namespace Go.Proofs.Ytlhlcfijpdknfaa
open Go.Vs Go.Vs.Ab Go.Vs.Hp Go.Vs.Tb
set_option maxRecDepth 100000
set_option maxHeartbeats 4000000

theorem idxT {ex : Bool} {l : List ByteArray} {k : Nat} (h : k < l.length) : aIndexAddr Try.prog 54 (slR stC ex l) (.c (.v (.int .i64 (k : Int)))) = some (.cptr (stC l[k] ++ (l.drop (k + 1)).flatMap stC)) :=
  idx_R stC 1 (fun _ => rfl) Try.underlying54 sz9 (by decide) h
theorem idxJ {ex : Bool} {l : List Int} {k : Nat} (h : k < l.length) : aIndexAddr Try.prog 55 (slR inC ex l) (.c (.v (.int .i64 (k : Int)))) = some (.cptr (inC l[k] ++ (l.drop (k + 1)).flatMap inC)) :=
  idx_R inC 1 (fun _ => rfl) Try.underlying55 sz3 (by decide) h
attribute [go_sem] inC
/-- Between two rounds of the first loop. -/
structure Lt (T : List ByteArray) (bt bm : Nat) (m : Mm) (S : List Nat) (E : List Ent) (N : List (ByteArray × Nat)) (mx u i : Nat) : Prop where
  tab : TabM m bt E S
  wf : Wf m
  cnt : m.hp[bm]? = some ⟨false, [.ent (nmI N)]⟩
  out : bm ∉ S
  fine : Fine E u
  cn : Cn E N
  len : E.length ≤ mx
  mx : mx ≤ i
  keys : ∀ s ∈ N.map Prod.fst, s ∈ T
  nd : (N.map Prod.fst).Nodup
theorem lowL {bt bm i j : Nat} {ex ex2 : Bool} {T : List ByteArray} {D : List Int} {x y : Int} (h1 : bt < i) (h2 : bm < i) : lowF i j [(0, slR stC ex T), (1, slR inC ex2 D), (5, .ptr bt 0), (6, .mapp bm), (7, iA x), (8, iA y)] = true := by
  simp only [lowF, slR, low, Bool.and_true, Bool.true_and, Nat.blt_eq, Bool.and_eq_true]
  exact ⟨h1, h2⟩
theorem Lt.bt {T : List ByteArray} {bt bm : Nat} {m : Mm} {S : List Nat} {E : List Ent} {N : List (ByteArray × Nat)} {mx u i : Nat} (h : Lt T bt bm m S E N mx u i) : bm < m.hp.length := (List.getElem?_eq_some_iff.1 h.cnt).1
/-- A count written. -/
theorem TabM.setCnt {m : Mm} {bt bm : Nat} {E : List Ent} {S : List Nat} (h : TabM m bt E S) (hW : Wf m) (hb : bm ∉ S) {blk : Blk} (hl : lows m.hp.length m.hw.length blk.cs = true) (hlt : bm < m.hp.length) : TabM (setB m bm blk) bt E S ∧ Wf (setB m bm blk) := by
  have k : Kp m (setB m bm blk) [bm] [bm] := Kp.stB hW (by simp) hl
  exact ⟨h.keep k (fun i hi h2 => by rw [List.mem_singleton] at h2; subst h2; exact hb hi), k.wf⟩
theorem max_int (ts : Array TypeId) (t : TypeId) (a b : Nat) : pureVal Try.prog (Builtin.max_ ts t #[.int .i64 (a : Int), .int .i64 (b : Int)]) = some (.int .i64 ((max a b : Nat) : Int)) := by
  have h : Builtin.max_ ts t #[.int .i64 (a : Int), .int .i64 (b : Int)] = Builtin.max2 (.int .i64 (a : Int)) (.int .i64 (b : Int)) >>= pure := rfl
  rw [h, pv_bind]
  unfold Builtin.max2
  simp only [pv_pure, Option.bind_some]
  by_cases hab : (b : Int) > a
  · rw [if_pos hab, Nat.max_eq_right (by omega)]
  · rw [if_neg hab, Nat.max_eq_left (by omega)]

attribute [-go_sem] aLookup aMapPut
theorem Lt.up {T : List ByteArray} {bt bm : Nat} {m : Mm} {S : List Nat} {E : List Ent} {N : List (ByteArray × Nat)} {mx u i v j : Nat} (h : Lt T bt bm m S E N mx u i) (hu : u ≤ v) (hi : i ≤ j) : Lt T bt bm m S E N mx v j :=
  ⟨h.tab, h.wf, h.cnt, h.out, h.fine.mono hu, h.cn, h.len, Nat.le_trans h.mx hi, h.keys, h.nd⟩
theorem take_len (E : List Ent) (s : ByteArray) : (takeS E s).2.length ≤ E.length + 1 := by
  unfold takeS
  split
  · simp
  · split
    · simp
    · split
      · simp
      · dsimp only
        split <;> simp
theorem Lt.gl {T : List ByteArray} {bt bm : Nat} {m : Mm} {S : List Nat} {E : List Ent} {N : List (ByteArray × Nat)} {mx u i : Nat} (h : Lt T bt bm m S E N mx u i) (s : ByteArray) : getL N s ≤ u := by
  rcases Nat.eq_zero_or_pos (getL N s) with h0 | h0
  · omega
  · obtain ⟨h1, k, w, hk⟩ := h.cn.dn s h0
    have h2 := (h.cn.up k s w hk h1).2
    have := h.fine.use _ (List.mem_of_getElem? hk)
    simp only at this
    omega
theorem least_does (T : List ByteArray) (D : List Int) (ex ex2 : Bool) : Does Try.prog 6 [slR stC ex T, slR inC ex2 D] (fun m => (bA true, m)) := by
  have c0 := lives_does
  cases q1 : decide ((60 : Int) < (T.length : Nat)) with
  | true =>
    refine does_of' Try.func6 rfl (by kernel_rfl) rfl Try.ntmps6 rfl rfl fun Q hQ => ?_
    repeat (first
        | refine tr_seq_k fun _ _ => ?_
        | (refine tr_region ?_; simp only [go_sem, List.getElem?_toArray, str_beq, reduceCtorEq, Nat.reduceEqDiff, Nat.reduceLT, Nat.reduceLeDiff, Nat.reduceAdd, Nat.reduceMul, Nat.reduceSub, Nat.reduceBEq, ↓reduceIte, bne_self_eq_false, Bool.and_false, Bool.false_and, Bool.true_or, Bool.false_or])
        | (refine tr_drawM (id := 19) follows [0, 1, 3, 7, 7, 31, 63, 127, 255, 255, 1023, 255, 255, 6399, 16383, 32767, 65535, 131071, 262143, 524287, 1048575, 2097151, 2097151, 8388607, 16777215] (by kernel_rfl) ?_; (try (rw [List.append_eq]; simp only [List.cons_append, List.nil_append])); simp (maxSteps := 4000000) only [go_sem, List.getElem?_toArray, str_beq, reduceCtorEq, Nat.reduceEqDiff, Nat.reduceLT, Nat.reduceLeDiff, Nat.reduceAdd, Nat.reduceMul, Nat.reduceSub, Nat.reduceBEq, ↓reduceIte, bne_self_eq_false, Bool.and_false, Bool.false_and, Bool.true_or, Bool.false_or])
        | (refine tr_drawM (id := 35) follows [0, 0, 0, 6, 14, 30, 63, 0, 0, 0, 768, 1792, 3840, 8064, 16383, 32767, 65535, 65535, 65535, 458751, 983039, 2031615, 4194303, 8388607, 16777215, 33554431, 67108863, 134217727, 268435455, 536870911, 536870911, 1610612735, 4294967295, 8589934591, 17179869183, 536870911, 536870911, 103616086015, 241055039487, 515932946431, 1099511627775, 2199023255551, 4398046511103] (by kernel_rfl) ?_; (try (rw [List.append_eq]; simp only [List.cons_append, List.nil_append])); simp (maxSteps := 4000000) only [go_sem, List.getElem?_toArray, str_beq, reduceCtorEq, Nat.reduceEqDiff, Nat.reduceLT, Nat.reduceLeDiff, Nat.reduceAdd, Nat.reduceMul, Nat.reduceSub, Nat.reduceBEq, ↓reduceIte, bne_self_eq_false, Bool.and_false, Bool.false_and, Bool.true_or, Bool.false_or])
        | (refine call_of (c0) ?_ ?_
           · first | rfl | simp only [go_sem, List.getElem?_toArray, str_beq, reduceCtorEq, Nat.reduceEqDiff, Nat.reduceLT, Nat.reduceLeDiff, Nat.reduceAdd, Nat.reduceMul, Nat.reduceSub, Nat.reduceBEq, ↓reduceIte, bne_self_eq_false, Bool.and_false, Bool.false_and, Bool.true_or, Bool.false_or, shut_col]
           simp only [go_sem, List.getElem?_toArray, str_beq, reduceCtorEq, Nat.reduceEqDiff, Nat.reduceLT, Nat.reduceLeDiff, Nat.reduceAdd, Nat.reduceMul, Nat.reduceSub, Nat.reduceBEq, ↓reduceIte, bne_self_eq_false, Bool.and_false, Bool.false_and, Bool.true_or, Bool.false_or])
        | refine k_of (by assumption) ?_
        | refine tr_block ?_
        | refine tr_scope ?_
        | (refine tr_skip ?_; try simp only [ex_seq, ex_block])
        | (refine tr_label ?_; try simp only [ex_seq, ex_block])
        | (refine tr_exit ?_; try simp only [ex_seq_exit, ex_block_exit, Nat.reduceEqDiff, if_true, if_false, ex_seq, ex_block, reduceCtorEq, ↓reduceIte])
        | (refine tr_ret ?_; try simp only [ex_seq_ret, ex_block_ret]))
    refine tr_cond rfl (fun ht => ?_) (fun hf => ?_)
    · cases ht
    · repeat (first
          | refine tr_seq_k fun _ _ => ?_
          | (refine tr_region ?_; simp only [go_sem, List.getElem?_toArray, str_beq, reduceCtorEq, Nat.reduceEqDiff, Nat.reduceLT, Nat.reduceLeDiff, Nat.reduceAdd, Nat.reduceMul, Nat.reduceSub, Nat.reduceBEq, ↓reduceIte, bne_self_eq_false, Bool.and_false, Bool.false_and, Bool.true_or, Bool.false_or, q1])
          | (refine tr_drawM (id := 19) follows [0, 1, 3, 7, 7, 31, 63, 127, 255, 255, 1023, 255, 255, 6399, 16383, 32767, 65535, 131071, 262143, 524287, 1048575, 2097151, 2097151, 8388607, 16777215] (by kernel_rfl) ?_; (try (rw [List.append_eq]; simp only [List.cons_append, List.nil_append])); simp (maxSteps := 4000000) only [go_sem, List.getElem?_toArray, str_beq, reduceCtorEq, Nat.reduceEqDiff, Nat.reduceLT, Nat.reduceLeDiff, Nat.reduceAdd, Nat.reduceMul, Nat.reduceSub, Nat.reduceBEq, ↓reduceIte, bne_self_eq_false, Bool.and_false, Bool.false_and, Bool.true_or, Bool.false_or, q1])
          | (refine tr_drawM (id := 35) follows [0, 0, 0, 6, 14, 30, 63, 0, 0, 0, 768, 1792, 3840, 8064, 16383, 32767, 65535, 65535, 65535, 458751, 983039, 2031615, 4194303, 8388607, 16777215, 33554431, 67108863, 134217727, 268435455, 536870911, 536870911, 1610612735, 4294967295, 8589934591, 17179869183, 536870911, 536870911, 103616086015, 241055039487, 515932946431, 1099511627775, 2199023255551, 4398046511103] (by kernel_rfl) ?_; (try (rw [List.append_eq]; simp only [List.cons_append, List.nil_append])); simp (maxSteps := 4000000) only [go_sem, List.getElem?_toArray, str_beq, reduceCtorEq, Nat.reduceEqDiff, Nat.reduceLT, Nat.reduceLeDiff, Nat.reduceAdd, Nat.reduceMul, Nat.reduceSub, Nat.reduceBEq, ↓reduceIte, bne_self_eq_false, Bool.and_false, Bool.false_and, Bool.true_or, Bool.false_or, q1])
          | refine k_of (by assumption) ?_
          | refine tr_block ?_
          | refine tr_scope ?_
          | (refine tr_skip ?_; try simp only [ex_seq, ex_block])
          | (refine tr_label ?_; try simp only [ex_seq, ex_block])
          | (refine tr_exit ?_; try simp only [ex_seq_exit, ex_block_exit, Nat.reduceEqDiff, if_true, if_false, ex_seq, ex_block, reduceCtorEq, ↓reduceIte])
          | (refine tr_ret ?_; try simp only [ex_seq_ret, ex_block_ret]))
      refine tr_cond rfl (fun ht => ?_) (fun hf => ?_)
      · repeat (first
            | refine tr_seq_k fun _ _ => ?_
            | (refine tr_region ?_; simp only [go_sem, List.getElem?_toArray, str_beq, reduceCtorEq, Nat.reduceEqDiff, Nat.reduceLT, Nat.reduceLeDiff, Nat.reduceAdd, Nat.reduceMul, Nat.reduceSub, Nat.reduceBEq, ↓reduceIte, bne_self_eq_false, Bool.and_false, Bool.false_and, Bool.true_or, Bool.false_or])
            | (refine tr_drawM (id := 19) follows [0, 1, 3, 7, 7, 31, 63, 127, 255, 255, 1023, 255, 255, 6399, 16383, 32767, 65535, 131071, 262143, 524287, 1048575, 2097151, 2097151, 8388607, 16777215] (by kernel_rfl) ?_; (try (rw [List.append_eq]; simp only [List.cons_append, List.nil_append])); simp (maxSteps := 4000000) only [go_sem, List.getElem?_toArray, str_beq, reduceCtorEq, Nat.reduceEqDiff, Nat.reduceLT, Nat.reduceLeDiff, Nat.reduceAdd, Nat.reduceMul, Nat.reduceSub, Nat.reduceBEq, ↓reduceIte, bne_self_eq_false, Bool.and_false, Bool.false_and, Bool.true_or, Bool.false_or])
            | (refine tr_drawM (id := 35) follows [0, 0, 0, 6, 14, 30, 63, 0, 0, 0, 768, 1792, 3840, 8064, 16383, 32767, 65535, 65535, 65535, 458751, 983039, 2031615, 4194303, 8388607, 16777215, 33554431, 67108863, 134217727, 268435455, 536870911, 536870911, 1610612735, 4294967295, 8589934591, 17179869183, 536870911, 536870911, 103616086015, 241055039487, 515932946431, 1099511627775, 2199023255551, 4398046511103] (by kernel_rfl) ?_; (try (rw [List.append_eq]; simp only [List.cons_append, List.nil_append])); simp (maxSteps := 4000000) only [go_sem, List.getElem?_toArray, str_beq, reduceCtorEq, Nat.reduceEqDiff, Nat.reduceLT, Nat.reduceLeDiff, Nat.reduceAdd, Nat.reduceMul, Nat.reduceSub, Nat.reduceBEq, ↓reduceIte, bne_self_eq_false, Bool.and_false, Bool.false_and, Bool.true_or, Bool.false_or])
            | refine k_of (by assumption) ?_
            | refine tr_block ?_
            | refine tr_scope ?_
            | (refine tr_skip ?_; try simp only [ex_seq, ex_block])
            | (refine tr_label ?_; try simp only [ex_seq, ex_block])
            | (refine tr_exit ?_; try simp only [ex_seq_exit, ex_block_exit, Nat.reduceEqDiff, if_true, if_false, ex_seq, ex_block, reduceCtorEq, ↓reduceIte])
            | (refine tr_ret ?_; try simp only [ex_seq_ret, ex_block_ret]))
        refine (hQ _ _ [bA true] ?_ (fun m => ?_)).2 <;> simp only [go_sem, List.getElem?_toArray, str_beq, reduceCtorEq, Nat.reduceEqDiff, Nat.reduceLT, Nat.reduceLeDiff, Nat.reduceAdd, Nat.reduceMul, Nat.reduceSub, Nat.reduceBEq, ↓reduceIte, bne_self_eq_false, Bool.and_false, Bool.false_and, Bool.true_or, Bool.false_or, Try.f6,]
      · cases hf
  | false =>
    cases q2 : decide ((60 : Int) < (D.length : Nat)) with
    | true =>
      refine does_of' Try.func6 rfl (by kernel_rfl) rfl Try.ntmps6 rfl rfl fun Q hQ => ?_
      repeat (first
          | refine tr_seq_k fun _ _ => ?_
          | (refine tr_region ?_; simp only [go_sem, List.getElem?_toArray, str_beq, reduceCtorEq, Nat.reduceEqDiff, Nat.reduceLT, Nat.reduceLeDiff, Nat.reduceAdd, Nat.reduceMul, Nat.reduceSub, Nat.reduceBEq, ↓reduceIte, bne_self_eq_false, Bool.and_false, Bool.false_and, Bool.true_or, Bool.false_or])
          | (refine tr_drawM (id := 19) follows [0, 1, 3, 7, 7, 31, 63, 127, 255, 255, 1023, 255, 255, 6399, 16383, 32767, 65535, 131071, 262143, 524287, 1048575, 2097151, 2097151, 8388607, 16777215] (by kernel_rfl) ?_; (try (rw [List.append_eq]; simp only [List.cons_append, List.nil_append])); simp (maxSteps := 4000000) only [go_sem, List.getElem?_toArray, str_beq, reduceCtorEq, Nat.reduceEqDiff, Nat.reduceLT, Nat.reduceLeDiff, Nat.reduceAdd, Nat.reduceMul, Nat.reduceSub, Nat.reduceBEq, ↓reduceIte, bne_self_eq_false, Bool.and_false, Bool.false_and, Bool.true_or, Bool.false_or])
          | (refine tr_drawM (id := 35) follows [0, 0, 0, 6, 14, 30, 63, 0, 0, 0, 768, 1792, 3840, 8064, 16383, 32767, 65535, 65535, 65535, 458751, 983039, 2031615, 4194303, 8388607, 16777215, 33554431, 67108863, 134217727, 268435455, 536870911, 536870911, 1610612735, 4294967295, 8589934591, 17179869183, 536870911, 536870911, 103616086015, 241055039487, 515932946431, 1099511627775, 2199023255551, 4398046511103] (by kernel_rfl) ?_; (try (rw [List.append_eq]; simp only [List.cons_append, List.nil_append])); simp (maxSteps := 4000000) only [go_sem, List.getElem?_toArray, str_beq, reduceCtorEq, Nat.reduceEqDiff, Nat.reduceLT, Nat.reduceLeDiff, Nat.reduceAdd, Nat.reduceMul, Nat.reduceSub, Nat.reduceBEq, ↓reduceIte, bne_self_eq_false, Bool.and_false, Bool.false_and, Bool.true_or, Bool.false_or])
          | (refine call_of (c0) ?_ ?_
             · first | rfl | simp only [go_sem, List.getElem?_toArray, str_beq, reduceCtorEq, Nat.reduceEqDiff, Nat.reduceLT, Nat.reduceLeDiff, Nat.reduceAdd, Nat.reduceMul, Nat.reduceSub, Nat.reduceBEq, ↓reduceIte, bne_self_eq_false, Bool.and_false, Bool.false_and, Bool.true_or, Bool.false_or, shut_col]
             simp only [go_sem, List.getElem?_toArray, str_beq, reduceCtorEq, Nat.reduceEqDiff, Nat.reduceLT, Nat.reduceLeDiff, Nat.reduceAdd, Nat.reduceMul, Nat.reduceSub, Nat.reduceBEq, ↓reduceIte, bne_self_eq_false, Bool.and_false, Bool.false_and, Bool.true_or, Bool.false_or])
          | refine k_of (by assumption) ?_
          | refine tr_block ?_
          | refine tr_scope ?_
          | (refine tr_skip ?_; try simp only [ex_seq, ex_block])
          | (refine tr_label ?_; try simp only [ex_seq, ex_block])
          | (refine tr_exit ?_; try simp only [ex_seq_exit, ex_block_exit, Nat.reduceEqDiff, if_true, if_false, ex_seq, ex_block, reduceCtorEq, ↓reduceIte])
          | (refine tr_ret ?_; try simp only [ex_seq_ret, ex_block_ret]))
      refine tr_cond rfl (fun ht => ?_) (fun hf => ?_)
      · cases ht
      · repeat (first
            | refine tr_seq_k fun _ _ => ?_
            | (refine tr_region ?_; simp only [go_sem, List.getElem?_toArray, str_beq, reduceCtorEq, Nat.reduceEqDiff, Nat.reduceLT, Nat.reduceLeDiff, Nat.reduceAdd, Nat.reduceMul, Nat.reduceSub, Nat.reduceBEq, ↓reduceIte, bne_self_eq_false, Bool.and_false, Bool.false_and, Bool.true_or, Bool.false_or, q1, q2])
            | (refine tr_drawM (id := 19) follows [0, 1, 3, 7, 7, 31, 63, 127, 255, 255, 1023, 255, 255, 6399, 16383, 32767, 65535, 131071, 262143, 524287, 1048575, 2097151, 2097151, 8388607, 16777215] (by kernel_rfl) ?_; (try (rw [List.append_eq]; simp only [List.cons_append, List.nil_append])); simp (maxSteps := 4000000) only [go_sem, List.getElem?_toArray, str_beq, reduceCtorEq, Nat.reduceEqDiff, Nat.reduceLT, Nat.reduceLeDiff, Nat.reduceAdd, Nat.reduceMul, Nat.reduceSub, Nat.reduceBEq, ↓reduceIte, bne_self_eq_false, Bool.and_false, Bool.false_and, Bool.true_or, Bool.false_or, q1, q2])
            | (refine tr_drawM (id := 35) follows [0, 0, 0, 6, 14, 30, 63, 0, 0, 0, 768, 1792, 3840, 8064, 16383, 32767, 65535, 65535, 65535, 458751, 983039, 2031615, 4194303, 8388607, 16777215, 33554431, 67108863, 134217727, 268435455, 536870911, 536870911, 1610612735, 4294967295, 8589934591, 17179869183, 536870911, 536870911, 103616086015, 241055039487, 515932946431, 1099511627775, 2199023255551, 4398046511103] (by kernel_rfl) ?_; (try (rw [List.append_eq]; simp only [List.cons_append, List.nil_append])); simp (maxSteps := 4000000) only [go_sem, List.getElem?_toArray, str_beq, reduceCtorEq, Nat.reduceEqDiff, Nat.reduceLT, Nat.reduceLeDiff, Nat.reduceAdd, Nat.reduceMul, Nat.reduceSub, Nat.reduceBEq, ↓reduceIte, bne_self_eq_false, Bool.and_false, Bool.false_and, Bool.true_or, Bool.false_or, q1, q2])
            | refine k_of (by assumption) ?_
            | refine tr_block ?_
            | refine tr_scope ?_
            | (refine tr_skip ?_; try simp only [ex_seq, ex_block])
            | (refine tr_label ?_; try simp only [ex_seq, ex_block])
            | (refine tr_exit ?_; try simp only [ex_seq_exit, ex_block_exit, Nat.reduceEqDiff, if_true, if_false, ex_seq, ex_block, reduceCtorEq, ↓reduceIte])
            | (refine tr_ret ?_; try simp only [ex_seq_ret, ex_block_ret]))
        refine tr_cond rfl (fun ht => ?_) (fun hf => ?_)
        · repeat (first
              | refine tr_seq_k fun _ _ => ?_
              | (refine tr_region ?_; simp only [go_sem, List.getElem?_toArray, str_beq, reduceCtorEq, Nat.reduceEqDiff, Nat.reduceLT, Nat.reduceLeDiff, Nat.reduceAdd, Nat.reduceMul, Nat.reduceSub, Nat.reduceBEq, ↓reduceIte, bne_self_eq_false, Bool.and_false, Bool.false_and, Bool.true_or, Bool.false_or])
              | (refine tr_drawM (id := 19) follows [0, 1, 3, 7, 7, 31, 63, 127, 255, 255, 1023, 255, 255, 6399, 16383, 32767, 65535, 131071, 262143, 524287, 1048575, 2097151, 2097151, 8388607, 16777215] (by kernel_rfl) ?_; (try (rw [List.append_eq]; simp only [List.cons_append, List.nil_append])); simp (maxSteps := 4000000) only [go_sem, List.getElem?_toArray, str_beq, reduceCtorEq, Nat.reduceEqDiff, Nat.reduceLT, Nat.reduceLeDiff, Nat.reduceAdd, Nat.reduceMul, Nat.reduceSub, Nat.reduceBEq, ↓reduceIte, bne_self_eq_false, Bool.and_false, Bool.false_and, Bool.true_or, Bool.false_or])
              | (refine tr_drawM (id := 35) follows [0, 0, 0, 6, 14, 30, 63, 0, 0, 0, 768, 1792, 3840, 8064, 16383, 32767, 65535, 65535, 65535, 458751, 983039, 2031615, 4194303, 8388607, 16777215, 33554431, 67108863, 134217727, 268435455, 536870911, 536870911, 1610612735, 4294967295, 8589934591, 17179869183, 536870911, 536870911, 103616086015, 241055039487, 515932946431, 1099511627775, 2199023255551, 4398046511103] (by kernel_rfl) ?_; (try (rw [List.append_eq]; simp only [List.cons_append, List.nil_append])); simp (maxSteps := 4000000) only [go_sem, List.getElem?_toArray, str_beq, reduceCtorEq, Nat.reduceEqDiff, Nat.reduceLT, Nat.reduceLeDiff, Nat.reduceAdd, Nat.reduceMul, Nat.reduceSub, Nat.reduceBEq, ↓reduceIte, bne_self_eq_false, Bool.and_false, Bool.false_and, Bool.true_or, Bool.false_or])
              | refine k_of (by assumption) ?_
              | refine tr_block ?_
              | refine tr_scope ?_
              | (refine tr_skip ?_; try simp only [ex_seq, ex_block])
              | (refine tr_label ?_; try simp only [ex_seq, ex_block])
              | (refine tr_exit ?_; try simp only [ex_seq_exit, ex_block_exit, Nat.reduceEqDiff, if_true, if_false, ex_seq, ex_block, reduceCtorEq, ↓reduceIte])
              | (refine tr_ret ?_; try simp only [ex_seq_ret, ex_block_ret]))
          refine (hQ _ _ [bA true] ?_ (fun m => ?_)).2 <;> simp only [go_sem, List.getElem?_toArray, str_beq, reduceCtorEq, Nat.reduceEqDiff, Nat.reduceLT, Nat.reduceLeDiff, Nat.reduceAdd, Nat.reduceMul, Nat.reduceSub, Nat.reduceBEq, ↓reduceIte, bne_self_eq_false, Bool.and_false, Bool.false_and, Bool.true_or, Bool.false_or, Try.f6,]
        · cases hf
    | false =>
      have hT60 : T.length ≤ 60 := by have := of_decide_eq_false q1; omega
      have hD60 : D.length ≤ 60 := by have := of_decide_eq_false q2; omega
      obtain ⟨mA, bt, SA, cA, tA, kA⟩ := new_gives wf0
      obtain ⟨m0, hm0⟩ : ∃ m0 : Mm, m0 = ⟨mA.hp ++ [⟨false, [.ent []]⟩], mA.hw⟩ := ⟨_, rfl⟩
      obtain ⟨bm, hbm⟩ : ∃ bm, bm = mA.hp.length := ⟨_, rfl⟩
      have k0 : Kp mA m0 [] [bm] := by rw [hm0, hbm]; exact Kp.addB kA.wf rfl
      have l0 : Lt T bt bm m0 SA [] [] 0 0 0 := by
        refine ⟨tA.keep k0 (fun _ _ h => by cases h), k0.wf, by rw [hm0, hbm]; simp [nmI, encE], fun h => by have := tA.slt _ h; omega, ⟨Nat.le_refl _, fun e h => (by cases h), fun e h => (by cases h)⟩, Cn.new, Nat.le_refl _, Nat.le_refl _, fun s h => by simp at h, by simp⟩
      refine does_of' Try.func6 rfl (by kernel_rfl) rfl Try.ntmps6 rfl rfl fun Q hQ => ?_
      repeat (first
          | refine tr_seq_k fun _ _ => ?_
          | (refine tr_region ?_; simp only [go_sem, List.getElem?_toArray, str_beq, reduceCtorEq, Nat.reduceEqDiff, Nat.reduceLT, Nat.reduceLeDiff, Nat.reduceAdd, Nat.reduceMul, Nat.reduceSub, Nat.reduceBEq, ↓reduceIte, bne_self_eq_false, Bool.and_false, Bool.false_and, Bool.true_or, Bool.false_or])
          | (refine tr_drawM (id := 19) follows [0, 1, 3, 7, 7, 31, 63, 127, 255, 255, 1023, 255, 255, 6399, 16383, 32767, 65535, 131071, 262143, 524287, 1048575, 2097151, 2097151, 8388607, 16777215] (by kernel_rfl) ?_; (try (rw [List.append_eq]; simp only [List.cons_append, List.nil_append])); simp (maxSteps := 4000000) only [go_sem, List.getElem?_toArray, str_beq, reduceCtorEq, Nat.reduceEqDiff, Nat.reduceLT, Nat.reduceLeDiff, Nat.reduceAdd, Nat.reduceMul, Nat.reduceSub, Nat.reduceBEq, ↓reduceIte, bne_self_eq_false, Bool.and_false, Bool.false_and, Bool.true_or, Bool.false_or])
          | (refine tr_drawM (id := 35) follows [0, 0, 0, 6, 14, 30, 63, 0, 0, 0, 768, 1792, 3840, 8064, 16383, 32767, 65535, 65535, 65535, 458751, 983039, 2031615, 4194303, 8388607, 16777215, 33554431, 67108863, 134217727, 268435455, 536870911, 536870911, 1610612735, 4294967295, 8589934591, 17179869183, 536870911, 536870911, 103616086015, 241055039487, 515932946431, 1099511627775, 2199023255551, 4398046511103] (by kernel_rfl) ?_; (try (rw [List.append_eq]; simp only [List.cons_append, List.nil_append])); simp (maxSteps := 4000000) only [go_sem, List.getElem?_toArray, str_beq, reduceCtorEq, Nat.reduceEqDiff, Nat.reduceLT, Nat.reduceLeDiff, Nat.reduceAdd, Nat.reduceMul, Nat.reduceSub, Nat.reduceBEq, ↓reduceIte, bne_self_eq_false, Bool.and_false, Bool.false_and, Bool.true_or, Bool.false_or])
          | (refine call_of (c0) ?_ ?_
             · first | rfl | simp only [go_sem, List.getElem?_toArray, str_beq, reduceCtorEq, Nat.reduceEqDiff, Nat.reduceLT, Nat.reduceLeDiff, Nat.reduceAdd, Nat.reduceMul, Nat.reduceSub, Nat.reduceBEq, ↓reduceIte, bne_self_eq_false, Bool.and_false, Bool.false_and, Bool.true_or, Bool.false_or, shut_col]
             simp only [go_sem, List.getElem?_toArray, str_beq, reduceCtorEq, Nat.reduceEqDiff, Nat.reduceLT, Nat.reduceLeDiff, Nat.reduceAdd, Nat.reduceMul, Nat.reduceSub, Nat.reduceBEq, ↓reduceIte, bne_self_eq_false, Bool.and_false, Bool.false_and, Bool.true_or, Bool.false_or])
          | refine k_of (by assumption) ?_
          | refine tr_block ?_
          | refine tr_scope ?_
          | (refine tr_skip ?_; try simp only [ex_seq, ex_block])
          | (refine tr_label ?_; try simp only [ex_seq, ex_block])
          | (refine tr_exit ?_; try simp only [ex_seq_exit, ex_block_exit, Nat.reduceEqDiff, if_true, if_false, ex_seq, ex_block, reduceCtorEq, ↓reduceIte])
          | (refine tr_ret ?_; try simp only [ex_seq_ret, ex_block_ret]))
      refine tr_cond rfl (fun ht => ?_) (fun hf => ?_)
      · cases ht
      · repeat (first
            | refine tr_seq_k fun _ _ => ?_
            | (refine tr_region ?_; simp only [go_sem, List.getElem?_toArray, str_beq, reduceCtorEq, Nat.reduceEqDiff, Nat.reduceLT, Nat.reduceLeDiff, Nat.reduceAdd, Nat.reduceMul, Nat.reduceSub, Nat.reduceBEq, ↓reduceIte, bne_self_eq_false, Bool.and_false, Bool.false_and, Bool.true_or, Bool.false_or, q1, q2])
            | (refine tr_drawM (id := 19) follows [0, 1, 3, 7, 7, 31, 63, 127, 255, 255, 1023, 255, 255, 6399, 16383, 32767, 65535, 131071, 262143, 524287, 1048575, 2097151, 2097151, 8388607, 16777215] (by kernel_rfl) ?_; (try (rw [List.append_eq]; simp only [List.cons_append, List.nil_append])); simp (maxSteps := 4000000) only [go_sem, List.getElem?_toArray, str_beq, reduceCtorEq, Nat.reduceEqDiff, Nat.reduceLT, Nat.reduceLeDiff, Nat.reduceAdd, Nat.reduceMul, Nat.reduceSub, Nat.reduceBEq, ↓reduceIte, bne_self_eq_false, Bool.and_false, Bool.false_and, Bool.true_or, Bool.false_or, q1, q2])
            | (refine tr_drawM (id := 35) follows [0, 0, 0, 6, 14, 30, 63, 0, 0, 0, 768, 1792, 3840, 8064, 16383, 32767, 65535, 65535, 65535, 458751, 983039, 2031615, 4194303, 8388607, 16777215, 33554431, 67108863, 134217727, 268435455, 536870911, 536870911, 1610612735, 4294967295, 8589934591, 17179869183, 536870911, 536870911, 103616086015, 241055039487, 515932946431, 1099511627775, 2199023255551, 4398046511103] (by kernel_rfl) ?_; (try (rw [List.append_eq]; simp only [List.cons_append, List.nil_append])); simp (maxSteps := 4000000) only [go_sem, List.getElem?_toArray, str_beq, reduceCtorEq, Nat.reduceEqDiff, Nat.reduceLT, Nat.reduceLeDiff, Nat.reduceAdd, Nat.reduceMul, Nat.reduceSub, Nat.reduceBEq, ↓reduceIte, bne_self_eq_false, Bool.and_false, Bool.false_and, Bool.true_or, Bool.false_or, q1, q2])
            | refine k_of (by assumption) ?_
            | refine tr_block ?_
            | refine tr_scope ?_
            | (refine tr_skip ?_; try simp only [ex_seq, ex_block])
            | (refine tr_label ?_; try simp only [ex_seq, ex_block])
            | (refine tr_exit ?_; try simp only [ex_seq_exit, ex_block_exit, Nat.reduceEqDiff, if_true, if_false, ex_seq, ex_block, reduceCtorEq, ↓reduceIte])
            | (refine tr_ret ?_; try simp only [ex_seq_ret, ex_block_ret]))
        refine tr_cond rfl (fun ht => ?_) (fun hf => ?_)
        · cases ht
        · repeat (first
              | refine tr_seq_k fun _ _ => ?_
              | (refine tr_region ?_; simp only [go_sem, List.getElem?_toArray, str_beq, reduceCtorEq, Nat.reduceEqDiff, Nat.reduceLT, Nat.reduceLeDiff, Nat.reduceAdd, Nat.reduceMul, Nat.reduceSub, Nat.reduceBEq, ↓reduceIte, bne_self_eq_false, Bool.and_false, Bool.false_and, Bool.true_or, Bool.false_or])
              | (refine tr_drawM (id := 19) follows [0, 1, 3, 7, 7, 31, 63, 127, 255, 255, 1023, 255, 255, 6399, 16383, 32767, 65535, 131071, 262143, 524287, 1048575, 2097151, 2097151, 8388607, 16777215] (by kernel_rfl) ?_; (try (rw [List.append_eq]; simp only [List.cons_append, List.nil_append])); simp (maxSteps := 4000000) only [go_sem, List.getElem?_toArray, str_beq, reduceCtorEq, Nat.reduceEqDiff, Nat.reduceLT, Nat.reduceLeDiff, Nat.reduceAdd, Nat.reduceMul, Nat.reduceSub, Nat.reduceBEq, ↓reduceIte, bne_self_eq_false, Bool.and_false, Bool.false_and, Bool.true_or, Bool.false_or])
              | (refine tr_drawM (id := 35) follows [0, 0, 0, 6, 14, 30, 63, 0, 0, 0, 768, 1792, 3840, 8064, 16383, 32767, 65535, 65535, 65535, 458751, 983039, 2031615, 4194303, 8388607, 16777215, 33554431, 67108863, 134217727, 268435455, 536870911, 536870911, 1610612735, 4294967295, 8589934591, 17179869183, 536870911, 536870911, 103616086015, 241055039487, 515932946431, 1099511627775, 2199023255551, 4398046511103] (by kernel_rfl) ?_; (try (rw [List.append_eq]; simp only [List.cons_append, List.nil_append])); simp (maxSteps := 4000000) only [go_sem, List.getElem?_toArray, str_beq, reduceCtorEq, Nat.reduceEqDiff, Nat.reduceLT, Nat.reduceLeDiff, Nat.reduceAdd, Nat.reduceMul, Nat.reduceSub, Nat.reduceBEq, ↓reduceIte, bne_self_eq_false, Bool.and_false, Bool.false_and, Bool.true_or, Bool.false_or])
              | (refine call_givesW (cA) ?_; (try dsimp only); (try simp only [go_sem, List.getElem?_toArray, str_beq, reduceCtorEq, Nat.reduceEqDiff, Nat.reduceLT, Nat.reduceLeDiff, Nat.reduceAdd, Nat.reduceMul, Nat.reduceSub, Nat.reduceBEq, ↓reduceIte, bne_self_eq_false, Bool.and_false, Bool.false_and, Bool.true_or, Bool.false_or]))
              | refine k_of (by assumption) ?_
              | refine tr_block ?_
              | refine tr_scope ?_
              | (refine tr_skip ?_; try simp only [ex_seq, ex_block])
              | (refine tr_label ?_; try simp only [ex_seq, ex_block])
              | (refine tr_exit ?_; try simp only [ex_seq_exit, ex_block_exit, Nat.reduceEqDiff, if_true, if_false, ex_seq, ex_block, reduceCtorEq, ↓reduceIte])
              | (refine tr_ret ?_; try simp only [ex_seq_ret, ex_block_ret]))
          rw [← hm0, ← hbm]
          refine tr_loop_k (σ := Mm × List Nat × List Ent × List (ByteArray × Nat) × Nat × Nat) (fun q => [(0, slR stC ex T), (1, slR inC ex2 D), (5, .ptr bt 0), (6, .mapp bm), (7, iA q.2.2.2.2.1), (8, iA q.2.2.2.2.2)]) (fun q => q.1)
            (fun q => Lt T bt bm q.1 q.2.1 q.2.2.1 q.2.2.2.1 q.2.2.2.2.1 (2 * q.2.2.2.2.2) q.2.2.2.2.2 ∧ q.2.2.2.2.2 ≤ T.length ∧ m0.hp.length ≤ q.1.hp.length ∧ q.1.hw = m0.hw) (fun q => T.length - q.2.2.2.2.2) (m0, SA, [], [], 0, 0) ⟨l0, Nat.zero_le _, Nat.le_refl _, rfl⟩ ⟨rfl, rfl, rfl, rfl, rfl, rfl, trivial⟩ rfl ?_
          rintro ⟨m, S, E, N, mx, i⟩ ⟨lt, hi, hL0, hw0⟩ K hK
          dsimp only at lt hi hL0 hw0 hK
          clear tA kA cA c0 l0 k0 hm0 hbm
          by_cases hlt : i < T.length
          · have d1 : decide ((i : Int) < (T.length : Nat)) = true := decide_eq_true (by omega)
            have ws := wrap_succ (show i ≤ 1000000000 by omega)
            have ix := idxT (ex := ex) hlt
            generalize hs : T[i] = s at ix
            have hsT : s ∈ T := hs ▸ List.getElem_mem hlt
            by_cases hb : s.size < 1 ∨ 255 < s.size
            · have c1 := take_bad lt.tab hb
              have z2 : decide ((2 : Int) = 0) = false := rfl
              have b1 := bin_neBo false
              have lm := lt.up (v := 2 * i + 1) (j := i + 1) (by omega) (by omega)
              cases g1 : decide ((1 : Int) ≤ (s.size : Nat)) with
              | false =>
                repeat (first
                    | refine tr_seq_k fun _ _ => ?_
                    | (refine tr_region ?_; simp only [go_sem, List.getElem?_toArray, str_beq, reduceCtorEq, Nat.reduceEqDiff, Nat.reduceLT, Nat.reduceLeDiff, Nat.reduceAdd, Nat.reduceMul, Nat.reduceSub, Nat.reduceBEq, ↓reduceIte, bne_self_eq_false, Bool.and_false, Bool.false_and, Bool.true_or, Bool.false_or, d1])
                    | (refine tr_drawM (id := 19) follows [0, 1, 3, 7, 7, 31, 63, 127, 255, 255, 1023, 255, 255, 6399, 16383, 32767, 65535, 131071, 262143, 524287, 1048575, 2097151, 2097151, 8388607, 16777215] (by kernel_rfl) ?_; (try (rw [List.append_eq]; simp only [List.cons_append, List.nil_append])); simp (maxSteps := 4000000) only [go_sem, List.getElem?_toArray, str_beq, reduceCtorEq, Nat.reduceEqDiff, Nat.reduceLT, Nat.reduceLeDiff, Nat.reduceAdd, Nat.reduceMul, Nat.reduceSub, Nat.reduceBEq, ↓reduceIte, bne_self_eq_false, Bool.and_false, Bool.false_and, Bool.true_or, Bool.false_or, d1])
                    | (refine tr_drawM (id := 35) follows [0, 0, 0, 6, 14, 30, 63, 0, 0, 0, 768, 1792, 3840, 8064, 16383, 32767, 65535, 65535, 65535, 458751, 983039, 2031615, 4194303, 8388607, 16777215, 33554431, 67108863, 134217727, 268435455, 536870911, 536870911, 1610612735, 4294967295, 8589934591, 17179869183, 536870911, 536870911, 103616086015, 241055039487, 515932946431, 1099511627775, 2199023255551, 4398046511103] (by kernel_rfl) ?_; (try (rw [List.append_eq]; simp only [List.cons_append, List.nil_append])); simp (maxSteps := 4000000) only [go_sem, List.getElem?_toArray, str_beq, reduceCtorEq, Nat.reduceEqDiff, Nat.reduceLT, Nat.reduceLeDiff, Nat.reduceAdd, Nat.reduceMul, Nat.reduceSub, Nat.reduceBEq, ↓reduceIte, bne_self_eq_false, Bool.and_false, Bool.false_and, Bool.true_or, Bool.false_or, d1])
                    | refine k_of (by assumption) ?_
                    | refine tr_block ?_
                    | refine tr_scope ?_
                    | (refine tr_skip ?_; try simp only [ex_seq, ex_block])
                    | (refine tr_label ?_; try simp only [ex_seq, ex_block])
                    | (refine tr_exit ?_; try simp only [ex_seq_exit, ex_block_exit, Nat.reduceEqDiff, if_true, if_false, ex_seq, ex_block, reduceCtorEq, ↓reduceIte])
                    | (refine tr_ret ?_; try simp only [ex_seq_ret, ex_block_ret]))
                refine tr_cond rfl (fun ht => ?_) (fun hf => ?_)
                · repeat (first
                      | refine tr_seq_k fun _ _ => ?_
                      | (refine tr_region ?_; simp only [go_sem, List.getElem?_toArray, str_beq, reduceCtorEq, Nat.reduceEqDiff, Nat.reduceLT, Nat.reduceLeDiff, Nat.reduceAdd, Nat.reduceMul, Nat.reduceSub, Nat.reduceBEq, ↓reduceIte, bne_self_eq_false, Bool.and_false, Bool.false_and, Bool.true_or, Bool.false_or, ix, g1, b1, z2])
                      | (refine tr_drawM (id := 19) follows [0, 1, 3, 7, 7, 31, 63, 127, 255, 255, 1023, 255, 255, 6399, 16383, 32767, 65535, 131071, 262143, 524287, 1048575, 2097151, 2097151, 8388607, 16777215] (by kernel_rfl) ?_; (try (rw [List.append_eq]; simp only [List.cons_append, List.nil_append])); simp (maxSteps := 4000000) only [go_sem, List.getElem?_toArray, str_beq, reduceCtorEq, Nat.reduceEqDiff, Nat.reduceLT, Nat.reduceLeDiff, Nat.reduceAdd, Nat.reduceMul, Nat.reduceSub, Nat.reduceBEq, ↓reduceIte, bne_self_eq_false, Bool.and_false, Bool.false_and, Bool.true_or, Bool.false_or, ix, g1, b1, z2])
                      | (refine tr_drawM (id := 35) follows [0, 0, 0, 6, 14, 30, 63, 0, 0, 0, 768, 1792, 3840, 8064, 16383, 32767, 65535, 65535, 65535, 458751, 983039, 2031615, 4194303, 8388607, 16777215, 33554431, 67108863, 134217727, 268435455, 536870911, 536870911, 1610612735, 4294967295, 8589934591, 17179869183, 536870911, 536870911, 103616086015, 241055039487, 515932946431, 1099511627775, 2199023255551, 4398046511103] (by kernel_rfl) ?_; (try (rw [List.append_eq]; simp only [List.cons_append, List.nil_append])); simp (maxSteps := 4000000) only [go_sem, List.getElem?_toArray, str_beq, reduceCtorEq, Nat.reduceEqDiff, Nat.reduceLT, Nat.reduceLeDiff, Nat.reduceAdd, Nat.reduceMul, Nat.reduceSub, Nat.reduceBEq, ↓reduceIte, bne_self_eq_false, Bool.and_false, Bool.false_and, Bool.true_or, Bool.false_or, ix, g1, b1, z2])
                      | (refine call_givesW (c1) ?_; (try dsimp only); (try simp only [go_sem, List.getElem?_toArray, str_beq, reduceCtorEq, Nat.reduceEqDiff, Nat.reduceLT, Nat.reduceLeDiff, Nat.reduceAdd, Nat.reduceMul, Nat.reduceSub, Nat.reduceBEq, ↓reduceIte, bne_self_eq_false, Bool.and_false, Bool.false_and, Bool.true_or, Bool.false_or, ix, g1, b1, z2]))
                      | refine k_of (by assumption) ?_
                      | refine tr_block ?_
                      | refine tr_scope ?_
                      | (refine tr_skip ?_; try simp only [ex_seq, ex_block])
                      | (refine tr_label ?_; try simp only [ex_seq, ex_block])
                      | (refine tr_exit ?_; try simp only [ex_seq_exit, ex_block_exit, Nat.reduceEqDiff, if_true, if_false, ex_seq, ex_block, reduceCtorEq, ↓reduceIte])
                      | (refine tr_ret ?_; try simp only [ex_seq_ret, ex_block_ret]))
                  refine tr_cond rfl (fun ht => ?_) (fun hf => ?_)
                  · cases ht
                  · repeat (first
                        | refine tr_seq_k fun _ _ => ?_
                        | (refine tr_region ?_; simp only [go_sem, List.getElem?_toArray, str_beq, reduceCtorEq, Nat.reduceEqDiff, Nat.reduceLT, Nat.reduceLeDiff, Nat.reduceAdd, Nat.reduceMul, Nat.reduceSub, Nat.reduceBEq, ↓reduceIte, bne_self_eq_false, Bool.and_false, Bool.false_and, Bool.true_or, Bool.false_or, z2])
                        | (refine tr_drawM (id := 19) follows [0, 1, 3, 7, 7, 31, 63, 127, 255, 255, 1023, 255, 255, 6399, 16383, 32767, 65535, 131071, 262143, 524287, 1048575, 2097151, 2097151, 8388607, 16777215] (by kernel_rfl) ?_; (try (rw [List.append_eq]; simp only [List.cons_append, List.nil_append])); simp (maxSteps := 4000000) only [go_sem, List.getElem?_toArray, str_beq, reduceCtorEq, Nat.reduceEqDiff, Nat.reduceLT, Nat.reduceLeDiff, Nat.reduceAdd, Nat.reduceMul, Nat.reduceSub, Nat.reduceBEq, ↓reduceIte, bne_self_eq_false, Bool.and_false, Bool.false_and, Bool.true_or, Bool.false_or, z2])
                        | (refine tr_drawM (id := 35) follows [0, 0, 0, 6, 14, 30, 63, 0, 0, 0, 768, 1792, 3840, 8064, 16383, 32767, 65535, 65535, 65535, 458751, 983039, 2031615, 4194303, 8388607, 16777215, 33554431, 67108863, 134217727, 268435455, 536870911, 536870911, 1610612735, 4294967295, 8589934591, 17179869183, 536870911, 536870911, 103616086015, 241055039487, 515932946431, 1099511627775, 2199023255551, 4398046511103] (by kernel_rfl) ?_; (try (rw [List.append_eq]; simp only [List.cons_append, List.nil_append])); simp (maxSteps := 4000000) only [go_sem, List.getElem?_toArray, str_beq, reduceCtorEq, Nat.reduceEqDiff, Nat.reduceLT, Nat.reduceLeDiff, Nat.reduceAdd, Nat.reduceMul, Nat.reduceSub, Nat.reduceBEq, ↓reduceIte, bne_self_eq_false, Bool.and_false, Bool.false_and, Bool.true_or, Bool.false_or, z2])
                        | refine k_of (by assumption) ?_
                        | refine tr_block ?_
                        | refine tr_scope ?_
                        | (refine tr_skip ?_; try simp only [ex_seq, ex_block])
                        | (refine tr_label ?_; try simp only [ex_seq, ex_block])
                        | (refine tr_exit ?_; try simp only [ex_seq_exit, ex_block_exit, Nat.reduceEqDiff, if_true, if_false, ex_seq, ex_block, reduceCtorEq, ↓reduceIte])
                        | (refine tr_ret ?_; try simp only [ex_seq_ret, ex_block_ret]))
                    refine tr_cond rfl (fun ht => ?_) (fun hf => ?_)
                    · cases ht
                    · have hLM := hL0
                      have hwM := hw0
                      clear c1 lt
                      generalize N = NM at *
                      generalize mx = mxM at *
                      generalize m = mM at *
                      generalize E = EM at *
                      generalize S = SM at *
                      cases d2 : decide ((D.length : Int) ≤ (i : Nat)) with
                      | true =>
                        repeat (first
                            | refine tr_seq_k fun _ _ => ?_
                            | (refine tr_region ?_; simp only [go_sem, List.getElem?_toArray, str_beq, reduceCtorEq, Nat.reduceEqDiff, Nat.reduceLT, Nat.reduceLeDiff, Nat.reduceAdd, Nat.reduceMul, Nat.reduceSub, Nat.reduceBEq, ↓reduceIte, bne_self_eq_false, Bool.and_false, Bool.false_and, Bool.true_or, Bool.false_or, d2])
                            | (refine tr_drawM (id := 19) follows [0, 1, 3, 7, 7, 31, 63, 127, 255, 255, 1023, 255, 255, 6399, 16383, 32767, 65535, 131071, 262143, 524287, 1048575, 2097151, 2097151, 8388607, 16777215] (by kernel_rfl) ?_; (try (rw [List.append_eq]; simp only [List.cons_append, List.nil_append])); simp (maxSteps := 4000000) only [go_sem, List.getElem?_toArray, str_beq, reduceCtorEq, Nat.reduceEqDiff, Nat.reduceLT, Nat.reduceLeDiff, Nat.reduceAdd, Nat.reduceMul, Nat.reduceSub, Nat.reduceBEq, ↓reduceIte, bne_self_eq_false, Bool.and_false, Bool.false_and, Bool.true_or, Bool.false_or, d2])
                            | (refine tr_drawM (id := 35) follows [0, 0, 0, 6, 14, 30, 63, 0, 0, 0, 768, 1792, 3840, 8064, 16383, 32767, 65535, 65535, 65535, 458751, 983039, 2031615, 4194303, 8388607, 16777215, 33554431, 67108863, 134217727, 268435455, 536870911, 536870911, 1610612735, 4294967295, 8589934591, 17179869183, 536870911, 536870911, 103616086015, 241055039487, 515932946431, 1099511627775, 2199023255551, 4398046511103] (by kernel_rfl) ?_; (try (rw [List.append_eq]; simp only [List.cons_append, List.nil_append])); simp (maxSteps := 4000000) only [go_sem, List.getElem?_toArray, str_beq, reduceCtorEq, Nat.reduceEqDiff, Nat.reduceLT, Nat.reduceLeDiff, Nat.reduceAdd, Nat.reduceMul, Nat.reduceSub, Nat.reduceBEq, ↓reduceIte, bne_self_eq_false, Bool.and_false, Bool.false_and, Bool.true_or, Bool.false_or, d2])
                            | refine k_of (by assumption) ?_
                            | refine tr_block ?_
                            | refine tr_scope ?_
                            | (refine tr_skip ?_; try simp only [ex_seq, ex_block])
                            | (refine tr_label ?_; try simp only [ex_seq, ex_block])
                            | (refine tr_exit ?_; try simp only [ex_seq_exit, ex_block_exit, Nat.reduceEqDiff, if_true, if_false, ex_seq, ex_block, reduceCtorEq, ↓reduceIte])
                            | (refine tr_ret ?_; try simp only [ex_seq_ret, ex_block_ret]))
                        refine tr_cond rfl (fun ht => ?_) (fun hf => ?_)
                        · repeat (first
                              | refine tr_seq_k fun _ _ => ?_
                              | (refine tr_region ?_; simp only [go_sem, List.getElem?_toArray, str_beq, reduceCtorEq, Nat.reduceEqDiff, Nat.reduceLT, Nat.reduceLeDiff, Nat.reduceAdd, Nat.reduceMul, Nat.reduceSub, Nat.reduceBEq, ↓reduceIte, bne_self_eq_false, Bool.and_false, Bool.false_and, Bool.true_or, Bool.false_or, ws])
                              | (refine tr_drawM (id := 19) follows [0, 1, 3, 7, 7, 31, 63, 127, 255, 255, 1023, 255, 255, 6399, 16383, 32767, 65535, 131071, 262143, 524287, 1048575, 2097151, 2097151, 8388607, 16777215] (by kernel_rfl) ?_; (try (rw [List.append_eq]; simp only [List.cons_append, List.nil_append])); simp (maxSteps := 4000000) only [go_sem, List.getElem?_toArray, str_beq, reduceCtorEq, Nat.reduceEqDiff, Nat.reduceLT, Nat.reduceLeDiff, Nat.reduceAdd, Nat.reduceMul, Nat.reduceSub, Nat.reduceBEq, ↓reduceIte, bne_self_eq_false, Bool.and_false, Bool.false_and, Bool.true_or, Bool.false_or, ws])
                              | (refine tr_drawM (id := 35) follows [0, 0, 0, 6, 14, 30, 63, 0, 0, 0, 768, 1792, 3840, 8064, 16383, 32767, 65535, 65535, 65535, 458751, 983039, 2031615, 4194303, 8388607, 16777215, 33554431, 67108863, 134217727, 268435455, 536870911, 536870911, 1610612735, 4294967295, 8589934591, 17179869183, 536870911, 536870911, 103616086015, 241055039487, 515932946431, 1099511627775, 2199023255551, 4398046511103] (by kernel_rfl) ?_; (try (rw [List.append_eq]; simp only [List.cons_append, List.nil_append])); simp (maxSteps := 4000000) only [go_sem, List.getElem?_toArray, str_beq, reduceCtorEq, Nat.reduceEqDiff, Nat.reduceLT, Nat.reduceLeDiff, Nat.reduceAdd, Nat.reduceMul, Nat.reduceSub, Nat.reduceBEq, ↓reduceIte, bne_self_eq_false, Bool.and_false, Bool.false_and, Bool.true_or, Bool.false_or, ws])
                              | refine k_of (by assumption) ?_
                              | refine tr_block ?_
                              | refine tr_scope ?_
                              | (refine tr_skip ?_; try simp only [ex_seq, ex_block])
                              | (refine tr_label ?_; try simp only [ex_seq, ex_block])
                              | (refine tr_exit ?_; try simp only [ex_seq_exit, ex_block_exit, Nat.reduceEqDiff, if_true, if_false, ex_seq, ex_block, reduceCtorEq, ↓reduceIte])
                              | (refine tr_ret ?_; try simp only [ex_seq_ret, ex_block_ret]))
                          exact hK (mM, SM, EM, NM, mxM, i + 1) _ _ ⟨lm.up (by dsimp only; omega) (Nat.le_refl _), hlt, hLM, hwM⟩ ⟨⟨rfl, rfl, rfl, rfl, rfl, rfl, trivial⟩, Keep.refl _, lowL lm.tab.lt lm.bt, lm.wf, hLM, by dsimp only; rw [hwM]; exact Nat.le_refl _⟩ (by dsimp only; omega)
                        · cases hf
                      | false =>
                        have hiD : i < D.length := by have := of_decide_eq_false d2; omega
                        have ij := idxJ (ex := ex2) hiD
                        generalize D[i] = dd at ij
                        cases d3 : decide (dd < 0) with
                        | true =>
                          repeat (first
                              | refine tr_seq_k fun _ _ => ?_
                              | (refine tr_region ?_; simp only [go_sem, List.getElem?_toArray, str_beq, reduceCtorEq, Nat.reduceEqDiff, Nat.reduceLT, Nat.reduceLeDiff, Nat.reduceAdd, Nat.reduceMul, Nat.reduceSub, Nat.reduceBEq, ↓reduceIte, bne_self_eq_false, Bool.and_false, Bool.false_and, Bool.true_or, Bool.false_or, d2, d3, ij])
                              | (refine tr_drawM (id := 19) follows [0, 1, 3, 7, 7, 31, 63, 127, 255, 255, 1023, 255, 255, 6399, 16383, 32767, 65535, 131071, 262143, 524287, 1048575, 2097151, 2097151, 8388607, 16777215] (by kernel_rfl) ?_; (try (rw [List.append_eq]; simp only [List.cons_append, List.nil_append])); simp (maxSteps := 4000000) only [go_sem, List.getElem?_toArray, str_beq, reduceCtorEq, Nat.reduceEqDiff, Nat.reduceLT, Nat.reduceLeDiff, Nat.reduceAdd, Nat.reduceMul, Nat.reduceSub, Nat.reduceBEq, ↓reduceIte, bne_self_eq_false, Bool.and_false, Bool.false_and, Bool.true_or, Bool.false_or, d2, d3, ij])
                              | (refine tr_drawM (id := 35) follows [0, 0, 0, 6, 14, 30, 63, 0, 0, 0, 768, 1792, 3840, 8064, 16383, 32767, 65535, 65535, 65535, 458751, 983039, 2031615, 4194303, 8388607, 16777215, 33554431, 67108863, 134217727, 268435455, 536870911, 536870911, 1610612735, 4294967295, 8589934591, 17179869183, 536870911, 536870911, 103616086015, 241055039487, 515932946431, 1099511627775, 2199023255551, 4398046511103] (by kernel_rfl) ?_; (try (rw [List.append_eq]; simp only [List.cons_append, List.nil_append])); simp (maxSteps := 4000000) only [go_sem, List.getElem?_toArray, str_beq, reduceCtorEq, Nat.reduceEqDiff, Nat.reduceLT, Nat.reduceLeDiff, Nat.reduceAdd, Nat.reduceMul, Nat.reduceSub, Nat.reduceBEq, ↓reduceIte, bne_self_eq_false, Bool.and_false, Bool.false_and, Bool.true_or, Bool.false_or, d2, d3, ij])
                              | refine k_of (by assumption) ?_
                              | refine tr_block ?_
                              | refine tr_scope ?_
                              | (refine tr_skip ?_; try simp only [ex_seq, ex_block])
                              | (refine tr_label ?_; try simp only [ex_seq, ex_block])
                              | (refine tr_exit ?_; try simp only [ex_seq_exit, ex_block_exit, Nat.reduceEqDiff, if_true, if_false, ex_seq, ex_block, reduceCtorEq, ↓reduceIte])
                              | (refine tr_ret ?_; try simp only [ex_seq_ret, ex_block_ret]))
                          refine tr_cond rfl (fun ht => ?_) (fun hf => ?_)
                          · repeat (first
                                | refine tr_seq_k fun _ _ => ?_
                                | (refine tr_region ?_; simp only [go_sem, List.getElem?_toArray, str_beq, reduceCtorEq, Nat.reduceEqDiff, Nat.reduceLT, Nat.reduceLeDiff, Nat.reduceAdd, Nat.reduceMul, Nat.reduceSub, Nat.reduceBEq, ↓reduceIte, bne_self_eq_false, Bool.and_false, Bool.false_and, Bool.true_or, Bool.false_or, ws])
                                | (refine tr_drawM (id := 19) follows [0, 1, 3, 7, 7, 31, 63, 127, 255, 255, 1023, 255, 255, 6399, 16383, 32767, 65535, 131071, 262143, 524287, 1048575, 2097151, 2097151, 8388607, 16777215] (by kernel_rfl) ?_; (try (rw [List.append_eq]; simp only [List.cons_append, List.nil_append])); simp (maxSteps := 4000000) only [go_sem, List.getElem?_toArray, str_beq, reduceCtorEq, Nat.reduceEqDiff, Nat.reduceLT, Nat.reduceLeDiff, Nat.reduceAdd, Nat.reduceMul, Nat.reduceSub, Nat.reduceBEq, ↓reduceIte, bne_self_eq_false, Bool.and_false, Bool.false_and, Bool.true_or, Bool.false_or, ws])
                                | (refine tr_drawM (id := 35) follows [0, 0, 0, 6, 14, 30, 63, 0, 0, 0, 768, 1792, 3840, 8064, 16383, 32767, 65535, 65535, 65535, 458751, 983039, 2031615, 4194303, 8388607, 16777215, 33554431, 67108863, 134217727, 268435455, 536870911, 536870911, 1610612735, 4294967295, 8589934591, 17179869183, 536870911, 536870911, 103616086015, 241055039487, 515932946431, 1099511627775, 2199023255551, 4398046511103] (by kernel_rfl) ?_; (try (rw [List.append_eq]; simp only [List.cons_append, List.nil_append])); simp (maxSteps := 4000000) only [go_sem, List.getElem?_toArray, str_beq, reduceCtorEq, Nat.reduceEqDiff, Nat.reduceLT, Nat.reduceLeDiff, Nat.reduceAdd, Nat.reduceMul, Nat.reduceSub, Nat.reduceBEq, ↓reduceIte, bne_self_eq_false, Bool.and_false, Bool.false_and, Bool.true_or, Bool.false_or, ws])
                                | refine k_of (by assumption) ?_
                                | refine tr_block ?_
                                | refine tr_scope ?_
                                | (refine tr_skip ?_; try simp only [ex_seq, ex_block])
                                | (refine tr_label ?_; try simp only [ex_seq, ex_block])
                                | (refine tr_exit ?_; try simp only [ex_seq_exit, ex_block_exit, Nat.reduceEqDiff, if_true, if_false, ex_seq, ex_block, reduceCtorEq, ↓reduceIte])
                                | (refine tr_ret ?_; try simp only [ex_seq_ret, ex_block_ret]))
                            exact hK (mM, SM, EM, NM, mxM, i + 1) _ _ ⟨lm.up (by dsimp only; omega) (Nat.le_refl _), hlt, hLM, hwM⟩ ⟨⟨rfl, rfl, rfl, rfl, rfl, rfl, trivial⟩, Keep.refl _, lowL lm.tab.lt lm.bt, lm.wf, hLM, by dsimp only; rw [hwM]; exact Nat.le_refl _⟩ (by dsimp only; omega)
                          · cases hf
                        | false =>
                          repeat (first
                              | refine tr_seq_k fun _ _ => ?_
                              | (refine tr_region ?_; simp only [go_sem, List.getElem?_toArray, str_beq, reduceCtorEq, Nat.reduceEqDiff, Nat.reduceLT, Nat.reduceLeDiff, Nat.reduceAdd, Nat.reduceMul, Nat.reduceSub, Nat.reduceBEq, ↓reduceIte, bne_self_eq_false, Bool.and_false, Bool.false_and, Bool.true_or, Bool.false_or, d2, d3, ij])
                              | (refine tr_drawM (id := 19) follows [0, 1, 3, 7, 7, 31, 63, 127, 255, 255, 1023, 255, 255, 6399, 16383, 32767, 65535, 131071, 262143, 524287, 1048575, 2097151, 2097151, 8388607, 16777215] (by kernel_rfl) ?_; (try (rw [List.append_eq]; simp only [List.cons_append, List.nil_append])); simp (maxSteps := 4000000) only [go_sem, List.getElem?_toArray, str_beq, reduceCtorEq, Nat.reduceEqDiff, Nat.reduceLT, Nat.reduceLeDiff, Nat.reduceAdd, Nat.reduceMul, Nat.reduceSub, Nat.reduceBEq, ↓reduceIte, bne_self_eq_false, Bool.and_false, Bool.false_and, Bool.true_or, Bool.false_or, d2, d3, ij])
                              | (refine tr_drawM (id := 35) follows [0, 0, 0, 6, 14, 30, 63, 0, 0, 0, 768, 1792, 3840, 8064, 16383, 32767, 65535, 65535, 65535, 458751, 983039, 2031615, 4194303, 8388607, 16777215, 33554431, 67108863, 134217727, 268435455, 536870911, 536870911, 1610612735, 4294967295, 8589934591, 17179869183, 536870911, 536870911, 103616086015, 241055039487, 515932946431, 1099511627775, 2199023255551, 4398046511103] (by kernel_rfl) ?_; (try (rw [List.append_eq]; simp only [List.cons_append, List.nil_append])); simp (maxSteps := 4000000) only [go_sem, List.getElem?_toArray, str_beq, reduceCtorEq, Nat.reduceEqDiff, Nat.reduceLT, Nat.reduceLeDiff, Nat.reduceAdd, Nat.reduceMul, Nat.reduceSub, Nat.reduceBEq, ↓reduceIte, bne_self_eq_false, Bool.and_false, Bool.false_and, Bool.true_or, Bool.false_or, d2, d3, ij])
                              | refine k_of (by assumption) ?_
                              | refine tr_block ?_
                              | refine tr_scope ?_
                              | (refine tr_skip ?_; try simp only [ex_seq, ex_block])
                              | (refine tr_label ?_; try simp only [ex_seq, ex_block])
                              | (refine tr_exit ?_; try simp only [ex_seq_exit, ex_block_exit, Nat.reduceEqDiff, if_true, if_false, ex_seq, ex_block, reduceCtorEq, ↓reduceIte])
                              | (refine tr_ret ?_; try simp only [ex_seq_ret, ex_block_ret]))
                          refine tr_cond rfl (fun ht => ?_) (fun hf => ?_)
                          · cases ht
                          · have cP := pick_does dd ((i + 1 : Nat) : Int) (by omega)
                            have hpi := pickN_in dd (show (1 : Int) ≤ ((i + 1 : Nat) : Int) by omega)
                            obtain ⟨p, hp⟩ : ∃ p : Nat, pickN dd ((i + 1 : Nat) : Int) = (p : Int) := ⟨(pickN dd ((i + 1 : Nat) : Int)).toNat, by omega⟩
                            rw [hp] at cP hpi
                            have hpT : p < T.length := by omega
                            have ip := idxT (ex := ex) hpT
                            generalize hs2 : T[p] = s2 at ip
                            have hs2T : s2 ∈ T := hs2 ▸ List.getElem_mem hpT
                            have cF := find_tab lm.tab s2
                            have lk4 := look_cnt lm.cnt s2
                            have h0 := lm.cn.find0 (s := s2)
                            have hdI : decide ((0 : Int) < ((getL NM s2 : Nat) : Int)) = decide (0 < getL NM s2) := decide_eq_decide.2 (by omega)
                            rw [← h0] at hdI
                            cases hfs : findS EM s2 with
                            | none =>
                              rw [hfs] at cF hdI
                              have cF : GivesW Try.prog 15 [.ptr bt 0, sA s2] mM (.tup [iA ((0 : Nat) : Int), bA false]) mM := cF
                              have hdI : decide ((0 : Int) < ((getL NM s2 : Nat) : Int)) = false := hdI
                              have b0 := bin_neBo false
                              repeat (first
                                  | refine tr_seq_k fun _ _ => ?_
                                  | (refine tr_region ?_; simp only [go_sem, List.getElem?_toArray, str_beq, reduceCtorEq, Nat.reduceEqDiff, Nat.reduceLT, Nat.reduceLeDiff, Nat.reduceAdd, Nat.reduceMul, Nat.reduceSub, Nat.reduceBEq, ↓reduceIte, bne_self_eq_false, Bool.and_false, Bool.false_and, Bool.true_or, Bool.false_or, ij, ip, ws, lk4, hdI, b0])
                                  | (refine tr_drawM (id := 19) follows [0, 1, 3, 7, 7, 31, 63, 127, 255, 255, 1023, 255, 255, 6399, 16383, 32767, 65535, 131071, 262143, 524287, 1048575, 2097151, 2097151, 8388607, 16777215] (by kernel_rfl) ?_; (try (rw [List.append_eq]; simp only [List.cons_append, List.nil_append])); simp (maxSteps := 4000000) only [go_sem, List.getElem?_toArray, str_beq, reduceCtorEq, Nat.reduceEqDiff, Nat.reduceLT, Nat.reduceLeDiff, Nat.reduceAdd, Nat.reduceMul, Nat.reduceSub, Nat.reduceBEq, ↓reduceIte, bne_self_eq_false, Bool.and_false, Bool.false_and, Bool.true_or, Bool.false_or, ij, ip, ws, lk4, hdI, b0])
                                  | (refine tr_drawM (id := 35) follows [0, 0, 0, 6, 14, 30, 63, 0, 0, 0, 768, 1792, 3840, 8064, 16383, 32767, 65535, 65535, 65535, 458751, 983039, 2031615, 4194303, 8388607, 16777215, 33554431, 67108863, 134217727, 268435455, 536870911, 536870911, 1610612735, 4294967295, 8589934591, 17179869183, 536870911, 536870911, 103616086015, 241055039487, 515932946431, 1099511627775, 2199023255551, 4398046511103] (by kernel_rfl) ?_; (try (rw [List.append_eq]; simp only [List.cons_append, List.nil_append])); simp (maxSteps := 4000000) only [go_sem, List.getElem?_toArray, str_beq, reduceCtorEq, Nat.reduceEqDiff, Nat.reduceLT, Nat.reduceLeDiff, Nat.reduceAdd, Nat.reduceMul, Nat.reduceSub, Nat.reduceBEq, ↓reduceIte, bne_self_eq_false, Bool.and_false, Bool.false_and, Bool.true_or, Bool.false_or, ij, ip, ws, lk4, hdI, b0])
                                  | (refine call_of (cP) ?_ ?_
                                     · first | rfl | simp only [go_sem, List.getElem?_toArray, str_beq, reduceCtorEq, Nat.reduceEqDiff, Nat.reduceLT, Nat.reduceLeDiff, Nat.reduceAdd, Nat.reduceMul, Nat.reduceSub, Nat.reduceBEq, ↓reduceIte, bne_self_eq_false, Bool.and_false, Bool.false_and, Bool.true_or, Bool.false_or, ij, ip, ws, lk4, hdI, b0, shut_col]
                                     simp only [go_sem, List.getElem?_toArray, str_beq, reduceCtorEq, Nat.reduceEqDiff, Nat.reduceLT, Nat.reduceLeDiff, Nat.reduceAdd, Nat.reduceMul, Nat.reduceSub, Nat.reduceBEq, ↓reduceIte, bne_self_eq_false, Bool.and_false, Bool.false_and, Bool.true_or, Bool.false_or, ij, ip, ws, lk4, hdI, b0])
                                  | (refine call_givesW (cF) ?_; (try dsimp only); (try simp only [go_sem, List.getElem?_toArray, str_beq, reduceCtorEq, Nat.reduceEqDiff, Nat.reduceLT, Nat.reduceLeDiff, Nat.reduceAdd, Nat.reduceMul, Nat.reduceSub, Nat.reduceBEq, ↓reduceIte, bne_self_eq_false, Bool.and_false, Bool.false_and, Bool.true_or, Bool.false_or, ij, ip, ws, lk4, hdI, b0]))
                                  | refine k_of (by assumption) ?_
                                  | refine tr_block ?_
                                  | refine tr_scope ?_
                                  | (refine tr_skip ?_; try simp only [ex_seq, ex_block])
                                  | (refine tr_label ?_; try simp only [ex_seq, ex_block])
                                  | (refine tr_exit ?_; try simp only [ex_seq_exit, ex_block_exit, Nat.reduceEqDiff, if_true, if_false, ex_seq, ex_block, reduceCtorEq, ↓reduceIte])
                                  | (refine tr_ret ?_; try simp only [ex_seq_ret, ex_block_ret]))
                              refine tr_cond rfl (fun ht => ?_) (fun hf => ?_)
                              · cases ht
                              · repeat (first
                                    | refine tr_seq_k fun _ _ => ?_
                                    | (refine tr_region ?_; simp only [go_sem, List.getElem?_toArray, str_beq, reduceCtorEq, Nat.reduceEqDiff, Nat.reduceLT, Nat.reduceLeDiff, Nat.reduceAdd, Nat.reduceMul, Nat.reduceSub, Nat.reduceBEq, ↓reduceIte, bne_self_eq_false, Bool.and_false, Bool.false_and, Bool.true_or, Bool.false_or])
                                    | (refine tr_drawM (id := 19) follows [0, 1, 3, 7, 7, 31, 63, 127, 255, 255, 1023, 255, 255, 6399, 16383, 32767, 65535, 131071, 262143, 524287, 1048575, 2097151, 2097151, 8388607, 16777215] (by kernel_rfl) ?_; (try (rw [List.append_eq]; simp only [List.cons_append, List.nil_append])); simp (maxSteps := 4000000) only [go_sem, List.getElem?_toArray, str_beq, reduceCtorEq, Nat.reduceEqDiff, Nat.reduceLT, Nat.reduceLeDiff, Nat.reduceAdd, Nat.reduceMul, Nat.reduceSub, Nat.reduceBEq, ↓reduceIte, bne_self_eq_false, Bool.and_false, Bool.false_and, Bool.true_or, Bool.false_or])
                                    | (refine tr_drawM (id := 35) follows [0, 0, 0, 6, 14, 30, 63, 0, 0, 0, 768, 1792, 3840, 8064, 16383, 32767, 65535, 65535, 65535, 458751, 983039, 2031615, 4194303, 8388607, 16777215, 33554431, 67108863, 134217727, 268435455, 536870911, 536870911, 1610612735, 4294967295, 8589934591, 17179869183, 536870911, 536870911, 103616086015, 241055039487, 515932946431, 1099511627775, 2199023255551, 4398046511103] (by kernel_rfl) ?_; (try (rw [List.append_eq]; simp only [List.cons_append, List.nil_append])); simp (maxSteps := 4000000) only [go_sem, List.getElem?_toArray, str_beq, reduceCtorEq, Nat.reduceEqDiff, Nat.reduceLT, Nat.reduceLeDiff, Nat.reduceAdd, Nat.reduceMul, Nat.reduceSub, Nat.reduceBEq, ↓reduceIte, bne_self_eq_false, Bool.and_false, Bool.false_and, Bool.true_or, Bool.false_or])
                                    | refine k_of (by assumption) ?_
                                    | refine tr_block ?_
                                    | refine tr_scope ?_
                                    | (refine tr_skip ?_; try simp only [ex_seq, ex_block])
                                    | (refine tr_label ?_; try simp only [ex_seq, ex_block])
                                    | (refine tr_exit ?_; try simp only [ex_seq_exit, ex_block_exit, Nat.reduceEqDiff, if_true, if_false, ex_seq, ex_block, reduceCtorEq, ↓reduceIte])
                                    | (refine tr_ret ?_; try simp only [ex_seq_ret, ex_block_ret]))
                                refine tr_cond rfl (fun ht => ?_) (fun hf => ?_)
                                · cases ht
                                · repeat (first
                                      | refine tr_seq_k fun _ _ => ?_
                                      | (refine tr_region ?_; simp only [go_sem, List.getElem?_toArray, str_beq, reduceCtorEq, Nat.reduceEqDiff, Nat.reduceLT, Nat.reduceLeDiff, Nat.reduceAdd, Nat.reduceMul, Nat.reduceSub, Nat.reduceBEq, ↓reduceIte, bne_self_eq_false, Bool.and_false, Bool.false_and, Bool.true_or, Bool.false_or, ws])
                                      | (refine tr_drawM (id := 19) follows [0, 1, 3, 7, 7, 31, 63, 127, 255, 255, 1023, 255, 255, 6399, 16383, 32767, 65535, 131071, 262143, 524287, 1048575, 2097151, 2097151, 8388607, 16777215] (by kernel_rfl) ?_; (try (rw [List.append_eq]; simp only [List.cons_append, List.nil_append])); simp (maxSteps := 4000000) only [go_sem, List.getElem?_toArray, str_beq, reduceCtorEq, Nat.reduceEqDiff, Nat.reduceLT, Nat.reduceLeDiff, Nat.reduceAdd, Nat.reduceMul, Nat.reduceSub, Nat.reduceBEq, ↓reduceIte, bne_self_eq_false, Bool.and_false, Bool.false_and, Bool.true_or, Bool.false_or, ws])
                                      | (refine tr_drawM (id := 35) follows [0, 0, 0, 6, 14, 30, 63, 0, 0, 0, 768, 1792, 3840, 8064, 16383, 32767, 65535, 65535, 65535, 458751, 983039, 2031615, 4194303, 8388607, 16777215, 33554431, 67108863, 134217727, 268435455, 536870911, 536870911, 1610612735, 4294967295, 8589934591, 17179869183, 536870911, 536870911, 103616086015, 241055039487, 515932946431, 1099511627775, 2199023255551, 4398046511103] (by kernel_rfl) ?_; (try (rw [List.append_eq]; simp only [List.cons_append, List.nil_append])); simp (maxSteps := 4000000) only [go_sem, List.getElem?_toArray, str_beq, reduceCtorEq, Nat.reduceEqDiff, Nat.reduceLT, Nat.reduceLeDiff, Nat.reduceAdd, Nat.reduceMul, Nat.reduceSub, Nat.reduceBEq, ↓reduceIte, bne_self_eq_false, Bool.and_false, Bool.false_and, Bool.true_or, Bool.false_or, ws])
                                      | refine k_of (by assumption) ?_
                                      | refine tr_block ?_
                                      | refine tr_scope ?_
                                      | (refine tr_skip ?_; try simp only [ex_seq, ex_block])
                                      | (refine tr_label ?_; try simp only [ex_seq, ex_block])
                                      | (refine tr_exit ?_; try simp only [ex_seq_exit, ex_block_exit, Nat.reduceEqDiff, if_true, if_false, ex_seq, ex_block, reduceCtorEq, ↓reduceIte])
                                      | (refine tr_ret ?_; try simp only [ex_seq_ret, ex_block_ret]))
                                  exact hK (mM, SM, EM, NM, mxM, i + 1) _ _ ⟨lm.up (by dsimp only; omega) (Nat.le_refl _), hlt, hLM, hwM⟩ ⟨⟨rfl, rfl, rfl, rfl, rfl, rfl, trivial⟩, Keep.refl _, lowL lm.tab.lt lm.bt, lm.wf, hLM, by dsimp only; rw [hwM]; exact Nat.le_refl _⟩ (by dsimp only; omega)
                            | some k =>
                              rw [hfs] at cF hdI
                              have cF : GivesW Try.prog 15 [.ptr bt 0, sA s2] mM (.tup [iA (k : Nat), bA true]) mM := cF
                              have hdI : decide ((0 : Int) < ((getL NM s2 : Nat) : Int)) = true := hdI
                              have hg0 := of_decide_eq_true hdI
                              have b0 := bin_neBo true
                              obtain ⟨m3, S3, c3, t3, k3⟩ := drop_tab lm.tab lm.wf (k : Int) (by have := lm.fine.len; omega) (fun e he => by have := lm.fine.use e he; omega)
                              obtain ⟨e3, cn3, ln3⟩ := lm.cn.drop hfs
                              rw [e3] at c3
                              have f3 := lm.fine.drop (k : Int)
                              have hc3 := k3.old bm _ lm.out lm.cnt
                              have lk5 := look_cnt hc3 s2
                              have pk5 := put_cnt hc3 s2 (getL NM s2 - 1)
                              have hgl := lm.gl s2
                              have wg5 : IntKind.i64.wrap (((getL NM s2 : Nat) : Int) - 1) = ((getL NM s2 - 1 : Nat) : Int) := by rw [wrap_in (by omega)]; omega
                              have hb3 : bm < m3.hp.length := (List.getElem?_eq_some_iff.1 hc3).1
                              have hout3 : bm ∉ S3 := fun h => by
                                rcases k3.new _ h with h | h
                                · exact lm.out h
                                · have := lm.bt; omega
                              obtain ⟨m4, hm4⟩ : ∃ m4, m4 = setB m3 bm ⟨false, [.ent (nmI (putL NM s2 (getL NM s2 - 1)))]⟩ := ⟨_, rfl⟩
                              obtain ⟨t4, w4⟩ := TabM.setCnt t3 k3.wf hout3 (blk := ⟨false, [.ent (nmI (putL NM s2 (getL NM s2 - 1)))]⟩) rfl hb3
                              have hc4 : (setB m3 bm ⟨false, [.ent (nmI (putL NM s2 (getL NM s2 - 1)))]⟩).hp[bm]? = some ⟨false, [.ent (nmI (putL NM s2 (getL NM s2 - 1)))]⟩ := setB_self hb3 _
                              rw [← hm4] at t4 w4 hc4 pk5
                              have hl4 : m4.hp.length = m3.hp.length := by rw [hm4]; exact setB_len _ _ _
                              have hw4 : m4.hw = m3.hw := by rw [hm4]; rfl
                              clear hm4
                              have l4 : Lt T bt bm m4 S3 (dropS EM (k : Int)).2 (putL NM s2 (getL NM s2 - 1)) mxM (2 * (i + 1)) (i + 1) := ⟨t4, w4, hc4, hout3, f3.mono (by omega), cn3, by rw [ln3]; exact lm.len, lm.mx, fun s hs => by
                                rcases (keys_put _ _ _ s).1 hs with rfl | h
                                · exact hs2T
                                · exact lm.keys s h, nd_put lm.nd _ _⟩
                              generalize (dropS EM (k : Int)).2 = E4 at *
                              have hL4 : m0.hp.length ≤ m4.hp.length := by rw [hl4]; exact Nat.le_trans hLM k3.len
                              have hw40 : m4.hw = m0.hw := hw4.trans (k3.hw.trans hwM)
                              repeat (first
                                  | refine tr_seq_k fun _ _ => ?_
                                  | (refine tr_region ?_; simp only [go_sem, List.getElem?_toArray, str_beq, reduceCtorEq, Nat.reduceEqDiff, Nat.reduceLT, Nat.reduceLeDiff, Nat.reduceAdd, Nat.reduceMul, Nat.reduceSub, Nat.reduceBEq, ↓reduceIte, bne_self_eq_false, Bool.and_false, Bool.false_and, Bool.true_or, Bool.false_or, ij, ip, ws, lk4, hdI, b0])
                                  | (refine tr_drawM (id := 19) follows [0, 1, 3, 7, 7, 31, 63, 127, 255, 255, 1023, 255, 255, 6399, 16383, 32767, 65535, 131071, 262143, 524287, 1048575, 2097151, 2097151, 8388607, 16777215] (by kernel_rfl) ?_; (try (rw [List.append_eq]; simp only [List.cons_append, List.nil_append])); simp (maxSteps := 4000000) only [go_sem, List.getElem?_toArray, str_beq, reduceCtorEq, Nat.reduceEqDiff, Nat.reduceLT, Nat.reduceLeDiff, Nat.reduceAdd, Nat.reduceMul, Nat.reduceSub, Nat.reduceBEq, ↓reduceIte, bne_self_eq_false, Bool.and_false, Bool.false_and, Bool.true_or, Bool.false_or, ij, ip, ws, lk4, hdI, b0])
                                  | (refine tr_drawM (id := 35) follows [0, 0, 0, 6, 14, 30, 63, 0, 0, 0, 768, 1792, 3840, 8064, 16383, 32767, 65535, 65535, 65535, 458751, 983039, 2031615, 4194303, 8388607, 16777215, 33554431, 67108863, 134217727, 268435455, 536870911, 536870911, 1610612735, 4294967295, 8589934591, 17179869183, 536870911, 536870911, 103616086015, 241055039487, 515932946431, 1099511627775, 2199023255551, 4398046511103] (by kernel_rfl) ?_; (try (rw [List.append_eq]; simp only [List.cons_append, List.nil_append])); simp (maxSteps := 4000000) only [go_sem, List.getElem?_toArray, str_beq, reduceCtorEq, Nat.reduceEqDiff, Nat.reduceLT, Nat.reduceLeDiff, Nat.reduceAdd, Nat.reduceMul, Nat.reduceSub, Nat.reduceBEq, ↓reduceIte, bne_self_eq_false, Bool.and_false, Bool.false_and, Bool.true_or, Bool.false_or, ij, ip, ws, lk4, hdI, b0])
                                  | (refine call_of (cP) ?_ ?_
                                     · first | rfl | simp only [go_sem, List.getElem?_toArray, str_beq, reduceCtorEq, Nat.reduceEqDiff, Nat.reduceLT, Nat.reduceLeDiff, Nat.reduceAdd, Nat.reduceMul, Nat.reduceSub, Nat.reduceBEq, ↓reduceIte, bne_self_eq_false, Bool.and_false, Bool.false_and, Bool.true_or, Bool.false_or, ij, ip, ws, lk4, hdI, b0, shut_col]
                                     simp only [go_sem, List.getElem?_toArray, str_beq, reduceCtorEq, Nat.reduceEqDiff, Nat.reduceLT, Nat.reduceLeDiff, Nat.reduceAdd, Nat.reduceMul, Nat.reduceSub, Nat.reduceBEq, ↓reduceIte, bne_self_eq_false, Bool.and_false, Bool.false_and, Bool.true_or, Bool.false_or, ij, ip, ws, lk4, hdI, b0])
                                  | (refine call_givesW (cF) ?_; (try dsimp only); (try simp only [go_sem, List.getElem?_toArray, str_beq, reduceCtorEq, Nat.reduceEqDiff, Nat.reduceLT, Nat.reduceLeDiff, Nat.reduceAdd, Nat.reduceMul, Nat.reduceSub, Nat.reduceBEq, ↓reduceIte, bne_self_eq_false, Bool.and_false, Bool.false_and, Bool.true_or, Bool.false_or, ij, ip, ws, lk4, hdI, b0]))
                                  | refine k_of (by assumption) ?_
                                  | refine tr_block ?_
                                  | refine tr_scope ?_
                                  | (refine tr_skip ?_; try simp only [ex_seq, ex_block])
                                  | (refine tr_label ?_; try simp only [ex_seq, ex_block])
                                  | (refine tr_exit ?_; try simp only [ex_seq_exit, ex_block_exit, Nat.reduceEqDiff, if_true, if_false, ex_seq, ex_block, reduceCtorEq, ↓reduceIte])
                                  | (refine tr_ret ?_; try simp only [ex_seq_ret, ex_block_ret]))
                              refine tr_cond rfl (fun ht => ?_) (fun hf => ?_)
                              · cases ht
                              · repeat (first
                                    | refine tr_seq_k fun _ _ => ?_
                                    | (refine tr_region ?_; simp only [go_sem, List.getElem?_toArray, str_beq, reduceCtorEq, Nat.reduceEqDiff, Nat.reduceLT, Nat.reduceLeDiff, Nat.reduceAdd, Nat.reduceMul, Nat.reduceSub, Nat.reduceBEq, ↓reduceIte, bne_self_eq_false, Bool.and_false, Bool.false_and, Bool.true_or, Bool.false_or])
                                    | (refine tr_drawM (id := 19) follows [0, 1, 3, 7, 7, 31, 63, 127, 255, 255, 1023, 255, 255, 6399, 16383, 32767, 65535, 131071, 262143, 524287, 1048575, 2097151, 2097151, 8388607, 16777215] (by kernel_rfl) ?_; (try (rw [List.append_eq]; simp only [List.cons_append, List.nil_append])); simp (maxSteps := 4000000) only [go_sem, List.getElem?_toArray, str_beq, reduceCtorEq, Nat.reduceEqDiff, Nat.reduceLT, Nat.reduceLeDiff, Nat.reduceAdd, Nat.reduceMul, Nat.reduceSub, Nat.reduceBEq, ↓reduceIte, bne_self_eq_false, Bool.and_false, Bool.false_and, Bool.true_or, Bool.false_or])
                                    | (refine tr_drawM (id := 35) follows [0, 0, 0, 6, 14, 30, 63, 0, 0, 0, 768, 1792, 3840, 8064, 16383, 32767, 65535, 65535, 65535, 458751, 983039, 2031615, 4194303, 8388607, 16777215, 33554431, 67108863, 134217727, 268435455, 536870911, 536870911, 1610612735, 4294967295, 8589934591, 17179869183, 536870911, 536870911, 103616086015, 241055039487, 515932946431, 1099511627775, 2199023255551, 4398046511103] (by kernel_rfl) ?_; (try (rw [List.append_eq]; simp only [List.cons_append, List.nil_append])); simp (maxSteps := 4000000) only [go_sem, List.getElem?_toArray, str_beq, reduceCtorEq, Nat.reduceEqDiff, Nat.reduceLT, Nat.reduceLeDiff, Nat.reduceAdd, Nat.reduceMul, Nat.reduceSub, Nat.reduceBEq, ↓reduceIte, bne_self_eq_false, Bool.and_false, Bool.false_and, Bool.true_or, Bool.false_or])
                                    | refine k_of (by assumption) ?_
                                    | refine tr_block ?_
                                    | refine tr_scope ?_
                                    | (refine tr_skip ?_; try simp only [ex_seq, ex_block])
                                    | (refine tr_label ?_; try simp only [ex_seq, ex_block])
                                    | (refine tr_exit ?_; try simp only [ex_seq_exit, ex_block_exit, Nat.reduceEqDiff, if_true, if_false, ex_seq, ex_block, reduceCtorEq, ↓reduceIte])
                                    | (refine tr_ret ?_; try simp only [ex_seq_ret, ex_block_ret]))
                                refine tr_cond rfl (fun ht => ?_) (fun hf => ?_)
                                · repeat (first
                                      | refine tr_seq_k fun _ _ => ?_
                                      | (refine tr_region ?_; simp only [go_sem, List.getElem?_toArray, str_beq, reduceCtorEq, Nat.reduceEqDiff, Nat.reduceLT, Nat.reduceLeDiff, Nat.reduceAdd, Nat.reduceMul, Nat.reduceSub, Nat.reduceBEq, ↓reduceIte, bne_self_eq_false, Bool.and_false, Bool.false_and, Bool.true_or, Bool.false_or])
                                      | (refine tr_drawM (id := 19) follows [0, 1, 3, 7, 7, 31, 63, 127, 255, 255, 1023, 255, 255, 6399, 16383, 32767, 65535, 131071, 262143, 524287, 1048575, 2097151, 2097151, 8388607, 16777215] (by kernel_rfl) ?_; (try (rw [List.append_eq]; simp only [List.cons_append, List.nil_append])); simp (maxSteps := 4000000) only [go_sem, List.getElem?_toArray, str_beq, reduceCtorEq, Nat.reduceEqDiff, Nat.reduceLT, Nat.reduceLeDiff, Nat.reduceAdd, Nat.reduceMul, Nat.reduceSub, Nat.reduceBEq, ↓reduceIte, bne_self_eq_false, Bool.and_false, Bool.false_and, Bool.true_or, Bool.false_or])
                                      | (refine tr_drawM (id := 35) follows [0, 0, 0, 6, 14, 30, 63, 0, 0, 0, 768, 1792, 3840, 8064, 16383, 32767, 65535, 65535, 65535, 458751, 983039, 2031615, 4194303, 8388607, 16777215, 33554431, 67108863, 134217727, 268435455, 536870911, 536870911, 1610612735, 4294967295, 8589934591, 17179869183, 536870911, 536870911, 103616086015, 241055039487, 515932946431, 1099511627775, 2199023255551, 4398046511103] (by kernel_rfl) ?_; (try (rw [List.append_eq]; simp only [List.cons_append, List.nil_append])); simp (maxSteps := 4000000) only [go_sem, List.getElem?_toArray, str_beq, reduceCtorEq, Nat.reduceEqDiff, Nat.reduceLT, Nat.reduceLeDiff, Nat.reduceAdd, Nat.reduceMul, Nat.reduceSub, Nat.reduceBEq, ↓reduceIte, bne_self_eq_false, Bool.and_false, Bool.false_and, Bool.true_or, Bool.false_or])
                                      | (refine call_givesW (c3) ?_; (try dsimp only); (try simp only [go_sem, List.getElem?_toArray, str_beq, reduceCtorEq, Nat.reduceEqDiff, Nat.reduceLT, Nat.reduceLeDiff, Nat.reduceAdd, Nat.reduceMul, Nat.reduceSub, Nat.reduceBEq, ↓reduceIte, bne_self_eq_false, Bool.and_false, Bool.false_and, Bool.true_or, Bool.false_or]))
                                      | refine k_of (by assumption) ?_
                                      | refine tr_block ?_
                                      | refine tr_scope ?_
                                      | (refine tr_skip ?_; try simp only [ex_seq, ex_block])
                                      | (refine tr_label ?_; try simp only [ex_seq, ex_block])
                                      | (refine tr_exit ?_; try simp only [ex_seq_exit, ex_block_exit, Nat.reduceEqDiff, if_true, if_false, ex_seq, ex_block, reduceCtorEq, ↓reduceIte])
                                      | (refine tr_ret ?_; try simp only [ex_seq_ret, ex_block_ret]))
                                  refine tr_cond rfl (fun ht => ?_) (fun hf => ?_)
                                  · cases ht
                                  · repeat (first
                                        | refine tr_seq_k fun _ _ => ?_
                                        | (refine tr_region ?_; simp only [go_sem, List.getElem?_toArray, str_beq, reduceCtorEq, Nat.reduceEqDiff, Nat.reduceLT, Nat.reduceLeDiff, Nat.reduceAdd, Nat.reduceMul, Nat.reduceSub, Nat.reduceBEq, ↓reduceIte, bne_self_eq_false, Bool.and_false, Bool.false_and, Bool.true_or, Bool.false_or, lk5, wg5, pk5, ws])
                                        | (refine tr_drawM (id := 19) follows [0, 1, 3, 7, 7, 31, 63, 127, 255, 255, 1023, 255, 255, 6399, 16383, 32767, 65535, 131071, 262143, 524287, 1048575, 2097151, 2097151, 8388607, 16777215] (by kernel_rfl) ?_; (try (rw [List.append_eq]; simp only [List.cons_append, List.nil_append])); simp (maxSteps := 4000000) only [go_sem, List.getElem?_toArray, str_beq, reduceCtorEq, Nat.reduceEqDiff, Nat.reduceLT, Nat.reduceLeDiff, Nat.reduceAdd, Nat.reduceMul, Nat.reduceSub, Nat.reduceBEq, ↓reduceIte, bne_self_eq_false, Bool.and_false, Bool.false_and, Bool.true_or, Bool.false_or, lk5, wg5, pk5, ws])
                                        | (refine tr_drawM (id := 35) follows [0, 0, 0, 6, 14, 30, 63, 0, 0, 0, 768, 1792, 3840, 8064, 16383, 32767, 65535, 65535, 65535, 458751, 983039, 2031615, 4194303, 8388607, 16777215, 33554431, 67108863, 134217727, 268435455, 536870911, 536870911, 1610612735, 4294967295, 8589934591, 17179869183, 536870911, 536870911, 103616086015, 241055039487, 515932946431, 1099511627775, 2199023255551, 4398046511103] (by kernel_rfl) ?_; (try (rw [List.append_eq]; simp only [List.cons_append, List.nil_append])); simp (maxSteps := 4000000) only [go_sem, List.getElem?_toArray, str_beq, reduceCtorEq, Nat.reduceEqDiff, Nat.reduceLT, Nat.reduceLeDiff, Nat.reduceAdd, Nat.reduceMul, Nat.reduceSub, Nat.reduceBEq, ↓reduceIte, bne_self_eq_false, Bool.and_false, Bool.false_and, Bool.true_or, Bool.false_or, lk5, wg5, pk5, ws])
                                        | refine k_of (by assumption) ?_
                                        | refine tr_block ?_
                                        | refine tr_scope ?_
                                        | (refine tr_skip ?_; try simp only [ex_seq, ex_block])
                                        | (refine tr_label ?_; try simp only [ex_seq, ex_block])
                                        | (refine tr_exit ?_; try simp only [ex_seq_exit, ex_block_exit, Nat.reduceEqDiff, if_true, if_false, ex_seq, ex_block, reduceCtorEq, ↓reduceIte])
                                        | (refine tr_ret ?_; try simp only [ex_seq_ret, ex_block_ret]))
                                    exact hK (m4, S3, E4, putL NM s2 (getL NM s2 - 1), mxM, i + 1) _ _ ⟨l4, hlt, hL4, hw40⟩ ⟨⟨rfl, rfl, rfl, rfl, rfl, rfl, trivial⟩, Keep.refl _, lowL l4.tab.lt l4.bt, l4.wf, hL4, by dsimp only; rw [hw40]; exact Nat.le_refl _⟩ (by dsimp only; omega)
                                · cases hf
                · cases hf
              | true =>
                have g2 : decide ((s.size : Int) ≤ 255) = false := decide_eq_false (by have := of_decide_eq_true g1; omega)
                repeat (first
                    | refine tr_seq_k fun _ _ => ?_
                    | (refine tr_region ?_; simp only [go_sem, List.getElem?_toArray, str_beq, reduceCtorEq, Nat.reduceEqDiff, Nat.reduceLT, Nat.reduceLeDiff, Nat.reduceAdd, Nat.reduceMul, Nat.reduceSub, Nat.reduceBEq, ↓reduceIte, bne_self_eq_false, Bool.and_false, Bool.false_and, Bool.true_or, Bool.false_or, d1])
                    | (refine tr_drawM (id := 19) follows [0, 1, 3, 7, 7, 31, 63, 127, 255, 255, 1023, 255, 255, 6399, 16383, 32767, 65535, 131071, 262143, 524287, 1048575, 2097151, 2097151, 8388607, 16777215] (by kernel_rfl) ?_; (try (rw [List.append_eq]; simp only [List.cons_append, List.nil_append])); simp (maxSteps := 4000000) only [go_sem, List.getElem?_toArray, str_beq, reduceCtorEq, Nat.reduceEqDiff, Nat.reduceLT, Nat.reduceLeDiff, Nat.reduceAdd, Nat.reduceMul, Nat.reduceSub, Nat.reduceBEq, ↓reduceIte, bne_self_eq_false, Bool.and_false, Bool.false_and, Bool.true_or, Bool.false_or, d1])
                    | (refine tr_drawM (id := 35) follows [0, 0, 0, 6, 14, 30, 63, 0, 0, 0, 768, 1792, 3840, 8064, 16383, 32767, 65535, 65535, 65535, 458751, 983039, 2031615, 4194303, 8388607, 16777215, 33554431, 67108863, 134217727, 268435455, 536870911, 536870911, 1610612735, 4294967295, 8589934591, 17179869183, 536870911, 536870911, 103616086015, 241055039487, 515932946431, 1099511627775, 2199023255551, 4398046511103] (by kernel_rfl) ?_; (try (rw [List.append_eq]; simp only [List.cons_append, List.nil_append])); simp (maxSteps := 4000000) only [go_sem, List.getElem?_toArray, str_beq, reduceCtorEq, Nat.reduceEqDiff, Nat.reduceLT, Nat.reduceLeDiff, Nat.reduceAdd, Nat.reduceMul, Nat.reduceSub, Nat.reduceBEq, ↓reduceIte, bne_self_eq_false, Bool.and_false, Bool.false_and, Bool.true_or, Bool.false_or, d1])
                    | refine k_of (by assumption) ?_
                    | refine tr_block ?_
                    | refine tr_scope ?_
                    | (refine tr_skip ?_; try simp only [ex_seq, ex_block])
                    | (refine tr_label ?_; try simp only [ex_seq, ex_block])
                    | (refine tr_exit ?_; try simp only [ex_seq_exit, ex_block_exit, Nat.reduceEqDiff, if_true, if_false, ex_seq, ex_block, reduceCtorEq, ↓reduceIte])
                    | (refine tr_ret ?_; try simp only [ex_seq_ret, ex_block_ret]))
                refine tr_cond rfl (fun ht => ?_) (fun hf => ?_)
                · repeat (first
                      | refine tr_seq_k fun _ _ => ?_
                      | (refine tr_region ?_; simp only [go_sem, List.getElem?_toArray, str_beq, reduceCtorEq, Nat.reduceEqDiff, Nat.reduceLT, Nat.reduceLeDiff, Nat.reduceAdd, Nat.reduceMul, Nat.reduceSub, Nat.reduceBEq, ↓reduceIte, bne_self_eq_false, Bool.and_false, Bool.false_and, Bool.true_or, Bool.false_or, ix, g1, g2, b1, z2])
                      | (refine tr_drawM (id := 19) follows [0, 1, 3, 7, 7, 31, 63, 127, 255, 255, 1023, 255, 255, 6399, 16383, 32767, 65535, 131071, 262143, 524287, 1048575, 2097151, 2097151, 8388607, 16777215] (by kernel_rfl) ?_; (try (rw [List.append_eq]; simp only [List.cons_append, List.nil_append])); simp (maxSteps := 4000000) only [go_sem, List.getElem?_toArray, str_beq, reduceCtorEq, Nat.reduceEqDiff, Nat.reduceLT, Nat.reduceLeDiff, Nat.reduceAdd, Nat.reduceMul, Nat.reduceSub, Nat.reduceBEq, ↓reduceIte, bne_self_eq_false, Bool.and_false, Bool.false_and, Bool.true_or, Bool.false_or, ix, g1, g2, b1, z2])
                      | (refine tr_drawM (id := 35) follows [0, 0, 0, 6, 14, 30, 63, 0, 0, 0, 768, 1792, 3840, 8064, 16383, 32767, 65535, 65535, 65535, 458751, 983039, 2031615, 4194303, 8388607, 16777215, 33554431, 67108863, 134217727, 268435455, 536870911, 536870911, 1610612735, 4294967295, 8589934591, 17179869183, 536870911, 536870911, 103616086015, 241055039487, 515932946431, 1099511627775, 2199023255551, 4398046511103] (by kernel_rfl) ?_; (try (rw [List.append_eq]; simp only [List.cons_append, List.nil_append])); simp (maxSteps := 4000000) only [go_sem, List.getElem?_toArray, str_beq, reduceCtorEq, Nat.reduceEqDiff, Nat.reduceLT, Nat.reduceLeDiff, Nat.reduceAdd, Nat.reduceMul, Nat.reduceSub, Nat.reduceBEq, ↓reduceIte, bne_self_eq_false, Bool.and_false, Bool.false_and, Bool.true_or, Bool.false_or, ix, g1, g2, b1, z2])
                      | (refine call_givesW (c1) ?_; (try dsimp only); (try simp only [go_sem, List.getElem?_toArray, str_beq, reduceCtorEq, Nat.reduceEqDiff, Nat.reduceLT, Nat.reduceLeDiff, Nat.reduceAdd, Nat.reduceMul, Nat.reduceSub, Nat.reduceBEq, ↓reduceIte, bne_self_eq_false, Bool.and_false, Bool.false_and, Bool.true_or, Bool.false_or, ix, g1, g2, b1, z2]))
                      | refine k_of (by assumption) ?_
                      | refine tr_block ?_
                      | refine tr_scope ?_
                      | (refine tr_skip ?_; try simp only [ex_seq, ex_block])
                      | (refine tr_label ?_; try simp only [ex_seq, ex_block])
                      | (refine tr_exit ?_; try simp only [ex_seq_exit, ex_block_exit, Nat.reduceEqDiff, if_true, if_false, ex_seq, ex_block, reduceCtorEq, ↓reduceIte])
                      | (refine tr_ret ?_; try simp only [ex_seq_ret, ex_block_ret]))
                  refine tr_cond rfl (fun ht => ?_) (fun hf => ?_)
                  · cases ht
                  · repeat (first
                        | refine tr_seq_k fun _ _ => ?_
                        | (refine tr_region ?_; simp only [go_sem, List.getElem?_toArray, str_beq, reduceCtorEq, Nat.reduceEqDiff, Nat.reduceLT, Nat.reduceLeDiff, Nat.reduceAdd, Nat.reduceMul, Nat.reduceSub, Nat.reduceBEq, ↓reduceIte, bne_self_eq_false, Bool.and_false, Bool.false_and, Bool.true_or, Bool.false_or, z2])
                        | (refine tr_drawM (id := 19) follows [0, 1, 3, 7, 7, 31, 63, 127, 255, 255, 1023, 255, 255, 6399, 16383, 32767, 65535, 131071, 262143, 524287, 1048575, 2097151, 2097151, 8388607, 16777215] (by kernel_rfl) ?_; (try (rw [List.append_eq]; simp only [List.cons_append, List.nil_append])); simp (maxSteps := 4000000) only [go_sem, List.getElem?_toArray, str_beq, reduceCtorEq, Nat.reduceEqDiff, Nat.reduceLT, Nat.reduceLeDiff, Nat.reduceAdd, Nat.reduceMul, Nat.reduceSub, Nat.reduceBEq, ↓reduceIte, bne_self_eq_false, Bool.and_false, Bool.false_and, Bool.true_or, Bool.false_or, z2])
                        | (refine tr_drawM (id := 35) follows [0, 0, 0, 6, 14, 30, 63, 0, 0, 0, 768, 1792, 3840, 8064, 16383, 32767, 65535, 65535, 65535, 458751, 983039, 2031615, 4194303, 8388607, 16777215, 33554431, 67108863, 134217727, 268435455, 536870911, 536870911, 1610612735, 4294967295, 8589934591, 17179869183, 536870911, 536870911, 103616086015, 241055039487, 515932946431, 1099511627775, 2199023255551, 4398046511103] (by kernel_rfl) ?_; (try (rw [List.append_eq]; simp only [List.cons_append, List.nil_append])); simp (maxSteps := 4000000) only [go_sem, List.getElem?_toArray, str_beq, reduceCtorEq, Nat.reduceEqDiff, Nat.reduceLT, Nat.reduceLeDiff, Nat.reduceAdd, Nat.reduceMul, Nat.reduceSub, Nat.reduceBEq, ↓reduceIte, bne_self_eq_false, Bool.and_false, Bool.false_and, Bool.true_or, Bool.false_or, z2])
                        | refine k_of (by assumption) ?_
                        | refine tr_block ?_
                        | refine tr_scope ?_
                        | (refine tr_skip ?_; try simp only [ex_seq, ex_block])
                        | (refine tr_label ?_; try simp only [ex_seq, ex_block])
                        | (refine tr_exit ?_; try simp only [ex_seq_exit, ex_block_exit, Nat.reduceEqDiff, if_true, if_false, ex_seq, ex_block, reduceCtorEq, ↓reduceIte])
                        | (refine tr_ret ?_; try simp only [ex_seq_ret, ex_block_ret]))
                    refine tr_cond rfl (fun ht => ?_) (fun hf => ?_)
                    · cases ht
                    · have hLM := hL0
                      have hwM := hw0
                      clear c1 lt
                      generalize N = NM at *
                      generalize mx = mxM at *
                      generalize m = mM at *
                      generalize E = EM at *
                      generalize S = SM at *
                      cases d2 : decide ((D.length : Int) ≤ (i : Nat)) with
                      | true =>
                        repeat (first
                            | refine tr_seq_k fun _ _ => ?_
                            | (refine tr_region ?_; simp only [go_sem, List.getElem?_toArray, str_beq, reduceCtorEq, Nat.reduceEqDiff, Nat.reduceLT, Nat.reduceLeDiff, Nat.reduceAdd, Nat.reduceMul, Nat.reduceSub, Nat.reduceBEq, ↓reduceIte, bne_self_eq_false, Bool.and_false, Bool.false_and, Bool.true_or, Bool.false_or, d2])
                            | (refine tr_drawM (id := 19) follows [0, 1, 3, 7, 7, 31, 63, 127, 255, 255, 1023, 255, 255, 6399, 16383, 32767, 65535, 131071, 262143, 524287, 1048575, 2097151, 2097151, 8388607, 16777215] (by kernel_rfl) ?_; (try (rw [List.append_eq]; simp only [List.cons_append, List.nil_append])); simp (maxSteps := 4000000) only [go_sem, List.getElem?_toArray, str_beq, reduceCtorEq, Nat.reduceEqDiff, Nat.reduceLT, Nat.reduceLeDiff, Nat.reduceAdd, Nat.reduceMul, Nat.reduceSub, Nat.reduceBEq, ↓reduceIte, bne_self_eq_false, Bool.and_false, Bool.false_and, Bool.true_or, Bool.false_or, d2])
                            | (refine tr_drawM (id := 35) follows [0, 0, 0, 6, 14, 30, 63, 0, 0, 0, 768, 1792, 3840, 8064, 16383, 32767, 65535, 65535, 65535, 458751, 983039, 2031615, 4194303, 8388607, 16777215, 33554431, 67108863, 134217727, 268435455, 536870911, 536870911, 1610612735, 4294967295, 8589934591, 17179869183, 536870911, 536870911, 103616086015, 241055039487, 515932946431, 1099511627775, 2199023255551, 4398046511103] (by kernel_rfl) ?_; (try (rw [List.append_eq]; simp only [List.cons_append, List.nil_append])); simp (maxSteps := 4000000) only [go_sem, List.getElem?_toArray, str_beq, reduceCtorEq, Nat.reduceEqDiff, Nat.reduceLT, Nat.reduceLeDiff, Nat.reduceAdd, Nat.reduceMul, Nat.reduceSub, Nat.reduceBEq, ↓reduceIte, bne_self_eq_false, Bool.and_false, Bool.false_and, Bool.true_or, Bool.false_or, d2])
                            | refine k_of (by assumption) ?_
                            | refine tr_block ?_
                            | refine tr_scope ?_
                            | (refine tr_skip ?_; try simp only [ex_seq, ex_block])
                            | (refine tr_label ?_; try simp only [ex_seq, ex_block])
                            | (refine tr_exit ?_; try simp only [ex_seq_exit, ex_block_exit, Nat.reduceEqDiff, if_true, if_false, ex_seq, ex_block, reduceCtorEq, ↓reduceIte])
                            | (refine tr_ret ?_; try simp only [ex_seq_ret, ex_block_ret]))
                        refine tr_cond rfl (fun ht => ?_) (fun hf => ?_)
                        · repeat (first
                              | refine tr_seq_k fun _ _ => ?_
                              | (refine tr_region ?_; simp only [go_sem, List.getElem?_toArray, str_beq, reduceCtorEq, Nat.reduceEqDiff, Nat.reduceLT, Nat.reduceLeDiff, Nat.reduceAdd, Nat.reduceMul, Nat.reduceSub, Nat.reduceBEq, ↓reduceIte, bne_self_eq_false, Bool.and_false, Bool.false_and, Bool.true_or, Bool.false_or, ws])
                              | (refine tr_drawM (id := 19) follows [0, 1, 3, 7, 7, 31, 63, 127, 255, 255, 1023, 255, 255, 6399, 16383, 32767, 65535, 131071, 262143, 524287, 1048575, 2097151, 2097151, 8388607, 16777215] (by kernel_rfl) ?_; (try (rw [List.append_eq]; simp only [List.cons_append, List.nil_append])); simp (maxSteps := 4000000) only [go_sem, List.getElem?_toArray, str_beq, reduceCtorEq, Nat.reduceEqDiff, Nat.reduceLT, Nat.reduceLeDiff, Nat.reduceAdd, Nat.reduceMul, Nat.reduceSub, Nat.reduceBEq, ↓reduceIte, bne_self_eq_false, Bool.and_false, Bool.false_and, Bool.true_or, Bool.false_or, ws])
                              | (refine tr_drawM (id := 35) follows [0, 0, 0, 6, 14, 30, 63, 0, 0, 0, 768, 1792, 3840, 8064, 16383, 32767, 65535, 65535, 65535, 458751, 983039, 2031615, 4194303, 8388607, 16777215, 33554431, 67108863, 134217727, 268435455, 536870911, 536870911, 1610612735, 4294967295, 8589934591, 17179869183, 536870911, 536870911, 103616086015, 241055039487, 515932946431, 1099511627775, 2199023255551, 4398046511103] (by kernel_rfl) ?_; (try (rw [List.append_eq]; simp only [List.cons_append, List.nil_append])); simp (maxSteps := 4000000) only [go_sem, List.getElem?_toArray, str_beq, reduceCtorEq, Nat.reduceEqDiff, Nat.reduceLT, Nat.reduceLeDiff, Nat.reduceAdd, Nat.reduceMul, Nat.reduceSub, Nat.reduceBEq, ↓reduceIte, bne_self_eq_false, Bool.and_false, Bool.false_and, Bool.true_or, Bool.false_or, ws])
                              | refine k_of (by assumption) ?_
                              | refine tr_block ?_
                              | refine tr_scope ?_
                              | (refine tr_skip ?_; try simp only [ex_seq, ex_block])
                              | (refine tr_label ?_; try simp only [ex_seq, ex_block])
                              | (refine tr_exit ?_; try simp only [ex_seq_exit, ex_block_exit, Nat.reduceEqDiff, if_true, if_false, ex_seq, ex_block, reduceCtorEq, ↓reduceIte])
                              | (refine tr_ret ?_; try simp only [ex_seq_ret, ex_block_ret]))
                          exact hK (mM, SM, EM, NM, mxM, i + 1) _ _ ⟨lm.up (by dsimp only; omega) (Nat.le_refl _), hlt, hLM, hwM⟩ ⟨⟨rfl, rfl, rfl, rfl, rfl, rfl, trivial⟩, Keep.refl _, lowL lm.tab.lt lm.bt, lm.wf, hLM, by dsimp only; rw [hwM]; exact Nat.le_refl _⟩ (by dsimp only; omega)
                        · cases hf
                      | false =>
                        have hiD : i < D.length := by have := of_decide_eq_false d2; omega
                        have ij := idxJ (ex := ex2) hiD
                        generalize D[i] = dd at ij
                        cases d3 : decide (dd < 0) with
                        | true =>
                          repeat (first
                              | refine tr_seq_k fun _ _ => ?_
                              | (refine tr_region ?_; simp only [go_sem, List.getElem?_toArray, str_beq, reduceCtorEq, Nat.reduceEqDiff, Nat.reduceLT, Nat.reduceLeDiff, Nat.reduceAdd, Nat.reduceMul, Nat.reduceSub, Nat.reduceBEq, ↓reduceIte, bne_self_eq_false, Bool.and_false, Bool.false_and, Bool.true_or, Bool.false_or, d2, d3, ij])
                              | (refine tr_drawM (id := 19) follows [0, 1, 3, 7, 7, 31, 63, 127, 255, 255, 1023, 255, 255, 6399, 16383, 32767, 65535, 131071, 262143, 524287, 1048575, 2097151, 2097151, 8388607, 16777215] (by kernel_rfl) ?_; (try (rw [List.append_eq]; simp only [List.cons_append, List.nil_append])); simp (maxSteps := 4000000) only [go_sem, List.getElem?_toArray, str_beq, reduceCtorEq, Nat.reduceEqDiff, Nat.reduceLT, Nat.reduceLeDiff, Nat.reduceAdd, Nat.reduceMul, Nat.reduceSub, Nat.reduceBEq, ↓reduceIte, bne_self_eq_false, Bool.and_false, Bool.false_and, Bool.true_or, Bool.false_or, d2, d3, ij])
                              | (refine tr_drawM (id := 35) follows [0, 0, 0, 6, 14, 30, 63, 0, 0, 0, 768, 1792, 3840, 8064, 16383, 32767, 65535, 65535, 65535, 458751, 983039, 2031615, 4194303, 8388607, 16777215, 33554431, 67108863, 134217727, 268435455, 536870911, 536870911, 1610612735, 4294967295, 8589934591, 17179869183, 536870911, 536870911, 103616086015, 241055039487, 515932946431, 1099511627775, 2199023255551, 4398046511103] (by kernel_rfl) ?_; (try (rw [List.append_eq]; simp only [List.cons_append, List.nil_append])); simp (maxSteps := 4000000) only [go_sem, List.getElem?_toArray, str_beq, reduceCtorEq, Nat.reduceEqDiff, Nat.reduceLT, Nat.reduceLeDiff, Nat.reduceAdd, Nat.reduceMul, Nat.reduceSub, Nat.reduceBEq, ↓reduceIte, bne_self_eq_false, Bool.and_false, Bool.false_and, Bool.true_or, Bool.false_or, d2, d3, ij])
                              | refine k_of (by assumption) ?_
                              | refine tr_block ?_
                              | refine tr_scope ?_
                              | (refine tr_skip ?_; try simp only [ex_seq, ex_block])
                              | (refine tr_label ?_; try simp only [ex_seq, ex_block])
                              | (refine tr_exit ?_; try simp only [ex_seq_exit, ex_block_exit, Nat.reduceEqDiff, if_true, if_false, ex_seq, ex_block, reduceCtorEq, ↓reduceIte])
                              | (refine tr_ret ?_; try simp only [ex_seq_ret, ex_block_ret]))
                          refine tr_cond rfl (fun ht => ?_) (fun hf => ?_)
                          · repeat (first
                                | refine tr_seq_k fun _ _ => ?_
                                | (refine tr_region ?_; simp only [go_sem, List.getElem?_toArray, str_beq, reduceCtorEq, Nat.reduceEqDiff, Nat.reduceLT, Nat.reduceLeDiff, Nat.reduceAdd, Nat.reduceMul, Nat.reduceSub, Nat.reduceBEq, ↓reduceIte, bne_self_eq_false, Bool.and_false, Bool.false_and, Bool.true_or, Bool.false_or, ws])
                                | (refine tr_drawM (id := 19) follows [0, 1, 3, 7, 7, 31, 63, 127, 255, 255, 1023, 255, 255, 6399, 16383, 32767, 65535, 131071, 262143, 524287, 1048575, 2097151, 2097151, 8388607, 16777215] (by kernel_rfl) ?_; (try (rw [List.append_eq]; simp only [List.cons_append, List.nil_append])); simp (maxSteps := 4000000) only [go_sem, List.getElem?_toArray, str_beq, reduceCtorEq, Nat.reduceEqDiff, Nat.reduceLT, Nat.reduceLeDiff, Nat.reduceAdd, Nat.reduceMul, Nat.reduceSub, Nat.reduceBEq, ↓reduceIte, bne_self_eq_false, Bool.and_false, Bool.false_and, Bool.true_or, Bool.false_or, ws])
                                | (refine tr_drawM (id := 35) follows [0, 0, 0, 6, 14, 30, 63, 0, 0, 0, 768, 1792, 3840, 8064, 16383, 32767, 65535, 65535, 65535, 458751, 983039, 2031615, 4194303, 8388607, 16777215, 33554431, 67108863, 134217727, 268435455, 536870911, 536870911, 1610612735, 4294967295, 8589934591, 17179869183, 536870911, 536870911, 103616086015, 241055039487, 515932946431, 1099511627775, 2199023255551, 4398046511103] (by kernel_rfl) ?_; (try (rw [List.append_eq]; simp only [List.cons_append, List.nil_append])); simp (maxSteps := 4000000) only [go_sem, List.getElem?_toArray, str_beq, reduceCtorEq, Nat.reduceEqDiff, Nat.reduceLT, Nat.reduceLeDiff, Nat.reduceAdd, Nat.reduceMul, Nat.reduceSub, Nat.reduceBEq, ↓reduceIte, bne_self_eq_false, Bool.and_false, Bool.false_and, Bool.true_or, Bool.false_or, ws])
                                | refine k_of (by assumption) ?_
                                | refine tr_block ?_
                                | refine tr_scope ?_
                                | (refine tr_skip ?_; try simp only [ex_seq, ex_block])
                                | (refine tr_label ?_; try simp only [ex_seq, ex_block])
                                | (refine tr_exit ?_; try simp only [ex_seq_exit, ex_block_exit, Nat.reduceEqDiff, if_true, if_false, ex_seq, ex_block, reduceCtorEq, ↓reduceIte])
                                | (refine tr_ret ?_; try simp only [ex_seq_ret, ex_block_ret]))
                            exact hK (mM, SM, EM, NM, mxM, i + 1) _ _ ⟨lm.up (by dsimp only; omega) (Nat.le_refl _), hlt, hLM, hwM⟩ ⟨⟨rfl, rfl, rfl, rfl, rfl, rfl, trivial⟩, Keep.refl _, lowL lm.tab.lt lm.bt, lm.wf, hLM, by dsimp only; rw [hwM]; exact Nat.le_refl _⟩ (by dsimp only; omega)
                          · cases hf
                        | false =>
                          repeat (first
                              | refine tr_seq_k fun _ _ => ?_
                              | (refine tr_region ?_; simp only [go_sem, List.getElem?_toArray, str_beq, reduceCtorEq, Nat.reduceEqDiff, Nat.reduceLT, Nat.reduceLeDiff, Nat.reduceAdd, Nat.reduceMul, Nat.reduceSub, Nat.reduceBEq, ↓reduceIte, bne_self_eq_false, Bool.and_false, Bool.false_and, Bool.true_or, Bool.false_or, d2, d3, ij])
                              | (refine tr_drawM (id := 19) follows [0, 1, 3, 7, 7, 31, 63, 127, 255, 255, 1023, 255, 255, 6399, 16383, 32767, 65535, 131071, 262143, 524287, 1048575, 2097151, 2097151, 8388607, 16777215] (by kernel_rfl) ?_; (try (rw [List.append_eq]; simp only [List.cons_append, List.nil_append])); simp (maxSteps := 4000000) only [go_sem, List.getElem?_toArray, str_beq, reduceCtorEq, Nat.reduceEqDiff, Nat.reduceLT, Nat.reduceLeDiff, Nat.reduceAdd, Nat.reduceMul, Nat.reduceSub, Nat.reduceBEq, ↓reduceIte, bne_self_eq_false, Bool.and_false, Bool.false_and, Bool.true_or, Bool.false_or, d2, d3, ij])
                              | (refine tr_drawM (id := 35) follows [0, 0, 0, 6, 14, 30, 63, 0, 0, 0, 768, 1792, 3840, 8064, 16383, 32767, 65535, 65535, 65535, 458751, 983039, 2031615, 4194303, 8388607, 16777215, 33554431, 67108863, 134217727, 268435455, 536870911, 536870911, 1610612735, 4294967295, 8589934591, 17179869183, 536870911, 536870911, 103616086015, 241055039487, 515932946431, 1099511627775, 2199023255551, 4398046511103] (by kernel_rfl) ?_; (try (rw [List.append_eq]; simp only [List.cons_append, List.nil_append])); simp (maxSteps := 4000000) only [go_sem, List.getElem?_toArray, str_beq, reduceCtorEq, Nat.reduceEqDiff, Nat.reduceLT, Nat.reduceLeDiff, Nat.reduceAdd, Nat.reduceMul, Nat.reduceSub, Nat.reduceBEq, ↓reduceIte, bne_self_eq_false, Bool.and_false, Bool.false_and, Bool.true_or, Bool.false_or, d2, d3, ij])
                              | refine k_of (by assumption) ?_
                              | refine tr_block ?_
                              | refine tr_scope ?_
                              | (refine tr_skip ?_; try simp only [ex_seq, ex_block])
                              | (refine tr_label ?_; try simp only [ex_seq, ex_block])
                              | (refine tr_exit ?_; try simp only [ex_seq_exit, ex_block_exit, Nat.reduceEqDiff, if_true, if_false, ex_seq, ex_block, reduceCtorEq, ↓reduceIte])
                              | (refine tr_ret ?_; try simp only [ex_seq_ret, ex_block_ret]))
                          refine tr_cond rfl (fun ht => ?_) (fun hf => ?_)
                          · cases ht
                          · have cP := pick_does dd ((i + 1 : Nat) : Int) (by omega)
                            have hpi := pickN_in dd (show (1 : Int) ≤ ((i + 1 : Nat) : Int) by omega)
                            obtain ⟨p, hp⟩ : ∃ p : Nat, pickN dd ((i + 1 : Nat) : Int) = (p : Int) := ⟨(pickN dd ((i + 1 : Nat) : Int)).toNat, by omega⟩
                            rw [hp] at cP hpi
                            have hpT : p < T.length := by omega
                            have ip := idxT (ex := ex) hpT
                            generalize hs2 : T[p] = s2 at ip
                            have hs2T : s2 ∈ T := hs2 ▸ List.getElem_mem hpT
                            have cF := find_tab lm.tab s2
                            have lk4 := look_cnt lm.cnt s2
                            have h0 := lm.cn.find0 (s := s2)
                            have hdI : decide ((0 : Int) < ((getL NM s2 : Nat) : Int)) = decide (0 < getL NM s2) := decide_eq_decide.2 (by omega)
                            rw [← h0] at hdI
                            cases hfs : findS EM s2 with
                            | none =>
                              rw [hfs] at cF hdI
                              have cF : GivesW Try.prog 15 [.ptr bt 0, sA s2] mM (.tup [iA ((0 : Nat) : Int), bA false]) mM := cF
                              have hdI : decide ((0 : Int) < ((getL NM s2 : Nat) : Int)) = false := hdI
                              have b0 := bin_neBo false
                              repeat (first
                                  | refine tr_seq_k fun _ _ => ?_
                                  | (refine tr_region ?_; simp only [go_sem, List.getElem?_toArray, str_beq, reduceCtorEq, Nat.reduceEqDiff, Nat.reduceLT, Nat.reduceLeDiff, Nat.reduceAdd, Nat.reduceMul, Nat.reduceSub, Nat.reduceBEq, ↓reduceIte, bne_self_eq_false, Bool.and_false, Bool.false_and, Bool.true_or, Bool.false_or, ij, ip, ws, lk4, hdI, b0])
                                  | (refine tr_drawM (id := 19) follows [0, 1, 3, 7, 7, 31, 63, 127, 255, 255, 1023, 255, 255, 6399, 16383, 32767, 65535, 131071, 262143, 524287, 1048575, 2097151, 2097151, 8388607, 16777215] (by kernel_rfl) ?_; (try (rw [List.append_eq]; simp only [List.cons_append, List.nil_append])); simp (maxSteps := 4000000) only [go_sem, List.getElem?_toArray, str_beq, reduceCtorEq, Nat.reduceEqDiff, Nat.reduceLT, Nat.reduceLeDiff, Nat.reduceAdd, Nat.reduceMul, Nat.reduceSub, Nat.reduceBEq, ↓reduceIte, bne_self_eq_false, Bool.and_false, Bool.false_and, Bool.true_or, Bool.false_or, ij, ip, ws, lk4, hdI, b0])
                                  | (refine tr_drawM (id := 35) follows [0, 0, 0, 6, 14, 30, 63, 0, 0, 0, 768, 1792, 3840, 8064, 16383, 32767, 65535, 65535, 65535, 458751, 983039, 2031615, 4194303, 8388607, 16777215, 33554431, 67108863, 134217727, 268435455, 536870911, 536870911, 1610612735, 4294967295, 8589934591, 17179869183, 536870911, 536870911, 103616086015, 241055039487, 515932946431, 1099511627775, 2199023255551, 4398046511103] (by kernel_rfl) ?_; (try (rw [List.append_eq]; simp only [List.cons_append, List.nil_append])); simp (maxSteps := 4000000) only [go_sem, List.getElem?_toArray, str_beq, reduceCtorEq, Nat.reduceEqDiff, Nat.reduceLT, Nat.reduceLeDiff, Nat.reduceAdd, Nat.reduceMul, Nat.reduceSub, Nat.reduceBEq, ↓reduceIte, bne_self_eq_false, Bool.and_false, Bool.false_and, Bool.true_or, Bool.false_or, ij, ip, ws, lk4, hdI, b0])
                                  | (refine call_of (cP) ?_ ?_
                                     · first | rfl | simp only [go_sem, List.getElem?_toArray, str_beq, reduceCtorEq, Nat.reduceEqDiff, Nat.reduceLT, Nat.reduceLeDiff, Nat.reduceAdd, Nat.reduceMul, Nat.reduceSub, Nat.reduceBEq, ↓reduceIte, bne_self_eq_false, Bool.and_false, Bool.false_and, Bool.true_or, Bool.false_or, ij, ip, ws, lk4, hdI, b0, shut_col]
                                     simp only [go_sem, List.getElem?_toArray, str_beq, reduceCtorEq, Nat.reduceEqDiff, Nat.reduceLT, Nat.reduceLeDiff, Nat.reduceAdd, Nat.reduceMul, Nat.reduceSub, Nat.reduceBEq, ↓reduceIte, bne_self_eq_false, Bool.and_false, Bool.false_and, Bool.true_or, Bool.false_or, ij, ip, ws, lk4, hdI, b0])
                                  | (refine call_givesW (cF) ?_; (try dsimp only); (try simp only [go_sem, List.getElem?_toArray, str_beq, reduceCtorEq, Nat.reduceEqDiff, Nat.reduceLT, Nat.reduceLeDiff, Nat.reduceAdd, Nat.reduceMul, Nat.reduceSub, Nat.reduceBEq, ↓reduceIte, bne_self_eq_false, Bool.and_false, Bool.false_and, Bool.true_or, Bool.false_or, ij, ip, ws, lk4, hdI, b0]))
                                  | refine k_of (by assumption) ?_
                                  | refine tr_block ?_
                                  | refine tr_scope ?_
                                  | (refine tr_skip ?_; try simp only [ex_seq, ex_block])
                                  | (refine tr_label ?_; try simp only [ex_seq, ex_block])
                                  | (refine tr_exit ?_; try simp only [ex_seq_exit, ex_block_exit, Nat.reduceEqDiff, if_true, if_false, ex_seq, ex_block, reduceCtorEq, ↓reduceIte])
                                  | (refine tr_ret ?_; try simp only [ex_seq_ret, ex_block_ret]))
                              refine tr_cond rfl (fun ht => ?_) (fun hf => ?_)
                              · cases ht
                              · repeat (first
                                    | refine tr_seq_k fun _ _ => ?_
                                    | (refine tr_region ?_; simp only [go_sem, List.getElem?_toArray, str_beq, reduceCtorEq, Nat.reduceEqDiff, Nat.reduceLT, Nat.reduceLeDiff, Nat.reduceAdd, Nat.reduceMul, Nat.reduceSub, Nat.reduceBEq, ↓reduceIte, bne_self_eq_false, Bool.and_false, Bool.false_and, Bool.true_or, Bool.false_or])
                                    | (refine tr_drawM (id := 19) follows [0, 1, 3, 7, 7, 31, 63, 127, 255, 255, 1023, 255, 255, 6399, 16383, 32767, 65535, 131071, 262143, 524287, 1048575, 2097151, 2097151, 8388607, 16777215] (by kernel_rfl) ?_; (try (rw [List.append_eq]; simp only [List.cons_append, List.nil_append])); simp (maxSteps := 4000000) only [go_sem, List.getElem?_toArray, str_beq, reduceCtorEq, Nat.reduceEqDiff, Nat.reduceLT, Nat.reduceLeDiff, Nat.reduceAdd, Nat.reduceMul, Nat.reduceSub, Nat.reduceBEq, ↓reduceIte, bne_self_eq_false, Bool.and_false, Bool.false_and, Bool.true_or, Bool.false_or])
                                    | (refine tr_drawM (id := 35) follows [0, 0, 0, 6, 14, 30, 63, 0, 0, 0, 768, 1792, 3840, 8064, 16383, 32767, 65535, 65535, 65535, 458751, 983039, 2031615, 4194303, 8388607, 16777215, 33554431, 67108863, 134217727, 268435455, 536870911, 536870911, 1610612735, 4294967295, 8589934591, 17179869183, 536870911, 536870911, 103616086015, 241055039487, 515932946431, 1099511627775, 2199023255551, 4398046511103] (by kernel_rfl) ?_; (try (rw [List.append_eq]; simp only [List.cons_append, List.nil_append])); simp (maxSteps := 4000000) only [go_sem, List.getElem?_toArray, str_beq, reduceCtorEq, Nat.reduceEqDiff, Nat.reduceLT, Nat.reduceLeDiff, Nat.reduceAdd, Nat.reduceMul, Nat.reduceSub, Nat.reduceBEq, ↓reduceIte, bne_self_eq_false, Bool.and_false, Bool.false_and, Bool.true_or, Bool.false_or])
                                    | refine k_of (by assumption) ?_
                                    | refine tr_block ?_
                                    | refine tr_scope ?_
                                    | (refine tr_skip ?_; try simp only [ex_seq, ex_block])
                                    | (refine tr_label ?_; try simp only [ex_seq, ex_block])
                                    | (refine tr_exit ?_; try simp only [ex_seq_exit, ex_block_exit, Nat.reduceEqDiff, if_true, if_false, ex_seq, ex_block, reduceCtorEq, ↓reduceIte])
                                    | (refine tr_ret ?_; try simp only [ex_seq_ret, ex_block_ret]))
                                refine tr_cond rfl (fun ht => ?_) (fun hf => ?_)
                                · cases ht
                                · repeat (first
                                      | refine tr_seq_k fun _ _ => ?_
                                      | (refine tr_region ?_; simp only [go_sem, List.getElem?_toArray, str_beq, reduceCtorEq, Nat.reduceEqDiff, Nat.reduceLT, Nat.reduceLeDiff, Nat.reduceAdd, Nat.reduceMul, Nat.reduceSub, Nat.reduceBEq, ↓reduceIte, bne_self_eq_false, Bool.and_false, Bool.false_and, Bool.true_or, Bool.false_or, ws])
                                      | (refine tr_drawM (id := 19) follows [0, 1, 3, 7, 7, 31, 63, 127, 255, 255, 1023, 255, 255, 6399, 16383, 32767, 65535, 131071, 262143, 524287, 1048575, 2097151, 2097151, 8388607, 16777215] (by kernel_rfl) ?_; (try (rw [List.append_eq]; simp only [List.cons_append, List.nil_append])); simp (maxSteps := 4000000) only [go_sem, List.getElem?_toArray, str_beq, reduceCtorEq, Nat.reduceEqDiff, Nat.reduceLT, Nat.reduceLeDiff, Nat.reduceAdd, Nat.reduceMul, Nat.reduceSub, Nat.reduceBEq, ↓reduceIte, bne_self_eq_false, Bool.and_false, Bool.false_and, Bool.true_or, Bool.false_or, ws])
                                      | (refine tr_drawM (id := 35) follows [0, 0, 0, 6, 14, 30, 63, 0, 0, 0, 768, 1792, 3840, 8064, 16383, 32767, 65535, 65535, 65535, 458751, 983039, 2031615, 4194303, 8388607, 16777215, 33554431, 67108863, 134217727, 268435455, 536870911, 536870911, 1610612735, 4294967295, 8589934591, 17179869183, 536870911, 536870911, 103616086015, 241055039487, 515932946431, 1099511627775, 2199023255551, 4398046511103] (by kernel_rfl) ?_; (try (rw [List.append_eq]; simp only [List.cons_append, List.nil_append])); simp (maxSteps := 4000000) only [go_sem, List.getElem?_toArray, str_beq, reduceCtorEq, Nat.reduceEqDiff, Nat.reduceLT, Nat.reduceLeDiff, Nat.reduceAdd, Nat.reduceMul, Nat.reduceSub, Nat.reduceBEq, ↓reduceIte, bne_self_eq_false, Bool.and_false, Bool.false_and, Bool.true_or, Bool.false_or, ws])
                                      | refine k_of (by assumption) ?_
                                      | refine tr_block ?_
                                      | refine tr_scope ?_
                                      | (refine tr_skip ?_; try simp only [ex_seq, ex_block])
                                      | (refine tr_label ?_; try simp only [ex_seq, ex_block])
                                      | (refine tr_exit ?_; try simp only [ex_seq_exit, ex_block_exit, Nat.reduceEqDiff, if_true, if_false, ex_seq, ex_block, reduceCtorEq, ↓reduceIte])
                                      | (refine tr_ret ?_; try simp only [ex_seq_ret, ex_block_ret]))
                                  exact hK (mM, SM, EM, NM, mxM, i + 1) _ _ ⟨lm.up (by dsimp only; omega) (Nat.le_refl _), hlt, hLM, hwM⟩ ⟨⟨rfl, rfl, rfl, rfl, rfl, rfl, trivial⟩, Keep.refl _, lowL lm.tab.lt lm.bt, lm.wf, hLM, by dsimp only; rw [hwM]; exact Nat.le_refl _⟩ (by dsimp only; omega)
                            | some k =>
                              rw [hfs] at cF hdI
                              have cF : GivesW Try.prog 15 [.ptr bt 0, sA s2] mM (.tup [iA (k : Nat), bA true]) mM := cF
                              have hdI : decide ((0 : Int) < ((getL NM s2 : Nat) : Int)) = true := hdI
                              have hg0 := of_decide_eq_true hdI
                              have b0 := bin_neBo true
                              obtain ⟨m3, S3, c3, t3, k3⟩ := drop_tab lm.tab lm.wf (k : Int) (by have := lm.fine.len; omega) (fun e he => by have := lm.fine.use e he; omega)
                              obtain ⟨e3, cn3, ln3⟩ := lm.cn.drop hfs
                              rw [e3] at c3
                              have f3 := lm.fine.drop (k : Int)
                              have hc3 := k3.old bm _ lm.out lm.cnt
                              have lk5 := look_cnt hc3 s2
                              have pk5 := put_cnt hc3 s2 (getL NM s2 - 1)
                              have hgl := lm.gl s2
                              have wg5 : IntKind.i64.wrap (((getL NM s2 : Nat) : Int) - 1) = ((getL NM s2 - 1 : Nat) : Int) := by rw [wrap_in (by omega)]; omega
                              have hb3 : bm < m3.hp.length := (List.getElem?_eq_some_iff.1 hc3).1
                              have hout3 : bm ∉ S3 := fun h => by
                                rcases k3.new _ h with h | h
                                · exact lm.out h
                                · have := lm.bt; omega
                              obtain ⟨m4, hm4⟩ : ∃ m4, m4 = setB m3 bm ⟨false, [.ent (nmI (putL NM s2 (getL NM s2 - 1)))]⟩ := ⟨_, rfl⟩
                              obtain ⟨t4, w4⟩ := TabM.setCnt t3 k3.wf hout3 (blk := ⟨false, [.ent (nmI (putL NM s2 (getL NM s2 - 1)))]⟩) rfl hb3
                              have hc4 : (setB m3 bm ⟨false, [.ent (nmI (putL NM s2 (getL NM s2 - 1)))]⟩).hp[bm]? = some ⟨false, [.ent (nmI (putL NM s2 (getL NM s2 - 1)))]⟩ := setB_self hb3 _
                              rw [← hm4] at t4 w4 hc4 pk5
                              have hl4 : m4.hp.length = m3.hp.length := by rw [hm4]; exact setB_len _ _ _
                              have hw4 : m4.hw = m3.hw := by rw [hm4]; rfl
                              clear hm4
                              have l4 : Lt T bt bm m4 S3 (dropS EM (k : Int)).2 (putL NM s2 (getL NM s2 - 1)) mxM (2 * (i + 1)) (i + 1) := ⟨t4, w4, hc4, hout3, f3.mono (by omega), cn3, by rw [ln3]; exact lm.len, lm.mx, fun s hs => by
                                rcases (keys_put _ _ _ s).1 hs with rfl | h
                                · exact hs2T
                                · exact lm.keys s h, nd_put lm.nd _ _⟩
                              generalize (dropS EM (k : Int)).2 = E4 at *
                              have hL4 : m0.hp.length ≤ m4.hp.length := by rw [hl4]; exact Nat.le_trans hLM k3.len
                              have hw40 : m4.hw = m0.hw := hw4.trans (k3.hw.trans hwM)
                              repeat (first
                                  | refine tr_seq_k fun _ _ => ?_
                                  | (refine tr_region ?_; simp only [go_sem, List.getElem?_toArray, str_beq, reduceCtorEq, Nat.reduceEqDiff, Nat.reduceLT, Nat.reduceLeDiff, Nat.reduceAdd, Nat.reduceMul, Nat.reduceSub, Nat.reduceBEq, ↓reduceIte, bne_self_eq_false, Bool.and_false, Bool.false_and, Bool.true_or, Bool.false_or, ij, ip, ws, lk4, hdI, b0])
                                  | (refine tr_drawM (id := 19) follows [0, 1, 3, 7, 7, 31, 63, 127, 255, 255, 1023, 255, 255, 6399, 16383, 32767, 65535, 131071, 262143, 524287, 1048575, 2097151, 2097151, 8388607, 16777215] (by kernel_rfl) ?_; (try (rw [List.append_eq]; simp only [List.cons_append, List.nil_append])); simp (maxSteps := 4000000) only [go_sem, List.getElem?_toArray, str_beq, reduceCtorEq, Nat.reduceEqDiff, Nat.reduceLT, Nat.reduceLeDiff, Nat.reduceAdd, Nat.reduceMul, Nat.reduceSub, Nat.reduceBEq, ↓reduceIte, bne_self_eq_false, Bool.and_false, Bool.false_and, Bool.true_or, Bool.false_or, ij, ip, ws, lk4, hdI, b0])
                                  | (refine tr_drawM (id := 35) follows [0, 0, 0, 6, 14, 30, 63, 0, 0, 0, 768, 1792, 3840, 8064, 16383, 32767, 65535, 65535, 65535, 458751, 983039, 2031615, 4194303, 8388607, 16777215, 33554431, 67108863, 134217727, 268435455, 536870911, 536870911, 1610612735, 4294967295, 8589934591, 17179869183, 536870911, 536870911, 103616086015, 241055039487, 515932946431, 1099511627775, 2199023255551, 4398046511103] (by kernel_rfl) ?_; (try (rw [List.append_eq]; simp only [List.cons_append, List.nil_append])); simp (maxSteps := 4000000) only [go_sem, List.getElem?_toArray, str_beq, reduceCtorEq, Nat.reduceEqDiff, Nat.reduceLT, Nat.reduceLeDiff, Nat.reduceAdd, Nat.reduceMul, Nat.reduceSub, Nat.reduceBEq, ↓reduceIte, bne_self_eq_false, Bool.and_false, Bool.false_and, Bool.true_or, Bool.false_or, ij, ip, ws, lk4, hdI, b0])
                                  | (refine call_of (cP) ?_ ?_
                                     · first | rfl | simp only [go_sem, List.getElem?_toArray, str_beq, reduceCtorEq, Nat.reduceEqDiff, Nat.reduceLT, Nat.reduceLeDiff, Nat.reduceAdd, Nat.reduceMul, Nat.reduceSub, Nat.reduceBEq, ↓reduceIte, bne_self_eq_false, Bool.and_false, Bool.false_and, Bool.true_or, Bool.false_or, ij, ip, ws, lk4, hdI, b0, shut_col]
                                     simp only [go_sem, List.getElem?_toArray, str_beq, reduceCtorEq, Nat.reduceEqDiff, Nat.reduceLT, Nat.reduceLeDiff, Nat.reduceAdd, Nat.reduceMul, Nat.reduceSub, Nat.reduceBEq, ↓reduceIte, bne_self_eq_false, Bool.and_false, Bool.false_and, Bool.true_or, Bool.false_or, ij, ip, ws, lk4, hdI, b0])
                                  | (refine call_givesW (cF) ?_; (try dsimp only); (try simp only [go_sem, List.getElem?_toArray, str_beq, reduceCtorEq, Nat.reduceEqDiff, Nat.reduceLT, Nat.reduceLeDiff, Nat.reduceAdd, Nat.reduceMul, Nat.reduceSub, Nat.reduceBEq, ↓reduceIte, bne_self_eq_false, Bool.and_false, Bool.false_and, Bool.true_or, Bool.false_or, ij, ip, ws, lk4, hdI, b0]))
                                  | refine k_of (by assumption) ?_
                                  | refine tr_block ?_
                                  | refine tr_scope ?_
                                  | (refine tr_skip ?_; try simp only [ex_seq, ex_block])
                                  | (refine tr_label ?_; try simp only [ex_seq, ex_block])
                                  | (refine tr_exit ?_; try simp only [ex_seq_exit, ex_block_exit, Nat.reduceEqDiff, if_true, if_false, ex_seq, ex_block, reduceCtorEq, ↓reduceIte])
                                  | (refine tr_ret ?_; try simp only [ex_seq_ret, ex_block_ret]))
                              refine tr_cond rfl (fun ht => ?_) (fun hf => ?_)
                              · cases ht
                              · repeat (first
                                    | refine tr_seq_k fun _ _ => ?_
                                    | (refine tr_region ?_; simp only [go_sem, List.getElem?_toArray, str_beq, reduceCtorEq, Nat.reduceEqDiff, Nat.reduceLT, Nat.reduceLeDiff, Nat.reduceAdd, Nat.reduceMul, Nat.reduceSub, Nat.reduceBEq, ↓reduceIte, bne_self_eq_false, Bool.and_false, Bool.false_and, Bool.true_or, Bool.false_or])
                                    | (refine tr_drawM (id := 19) follows [0, 1, 3, 7, 7, 31, 63, 127, 255, 255, 1023, 255, 255, 6399, 16383, 32767, 65535, 131071, 262143, 524287, 1048575, 2097151, 2097151, 8388607, 16777215] (by kernel_rfl) ?_; (try (rw [List.append_eq]; simp only [List.cons_append, List.nil_append])); simp (maxSteps := 4000000) only [go_sem, List.getElem?_toArray, str_beq, reduceCtorEq, Nat.reduceEqDiff, Nat.reduceLT, Nat.reduceLeDiff, Nat.reduceAdd, Nat.reduceMul, Nat.reduceSub, Nat.reduceBEq, ↓reduceIte, bne_self_eq_false, Bool.and_false, Bool.false_and, Bool.true_or, Bool.false_or])
                                    | (refine tr_drawM (id := 35) follows [0, 0, 0, 6, 14, 30, 63, 0, 0, 0, 768, 1792, 3840, 8064, 16383, 32767, 65535, 65535, 65535, 458751, 983039, 2031615, 4194303, 8388607, 16777215, 33554431, 67108863, 134217727, 268435455, 536870911, 536870911, 1610612735, 4294967295, 8589934591, 17179869183, 536870911, 536870911, 103616086015, 241055039487, 515932946431, 1099511627775, 2199023255551, 4398046511103] (by kernel_rfl) ?_; (try (rw [List.append_eq]; simp only [List.cons_append, List.nil_append])); simp (maxSteps := 4000000) only [go_sem, List.getElem?_toArray, str_beq, reduceCtorEq, Nat.reduceEqDiff, Nat.reduceLT, Nat.reduceLeDiff, Nat.reduceAdd, Nat.reduceMul, Nat.reduceSub, Nat.reduceBEq, ↓reduceIte, bne_self_eq_false, Bool.and_false, Bool.false_and, Bool.true_or, Bool.false_or])
                                    | refine k_of (by assumption) ?_
                                    | refine tr_block ?_
                                    | refine tr_scope ?_
                                    | (refine tr_skip ?_; try simp only [ex_seq, ex_block])
                                    | (refine tr_label ?_; try simp only [ex_seq, ex_block])
                                    | (refine tr_exit ?_; try simp only [ex_seq_exit, ex_block_exit, Nat.reduceEqDiff, if_true, if_false, ex_seq, ex_block, reduceCtorEq, ↓reduceIte])
                                    | (refine tr_ret ?_; try simp only [ex_seq_ret, ex_block_ret]))
                                refine tr_cond rfl (fun ht => ?_) (fun hf => ?_)
                                · repeat (first
                                      | refine tr_seq_k fun _ _ => ?_
                                      | (refine tr_region ?_; simp only [go_sem, List.getElem?_toArray, str_beq, reduceCtorEq, Nat.reduceEqDiff, Nat.reduceLT, Nat.reduceLeDiff, Nat.reduceAdd, Nat.reduceMul, Nat.reduceSub, Nat.reduceBEq, ↓reduceIte, bne_self_eq_false, Bool.and_false, Bool.false_and, Bool.true_or, Bool.false_or])
                                      | (refine tr_drawM (id := 19) follows [0, 1, 3, 7, 7, 31, 63, 127, 255, 255, 1023, 255, 255, 6399, 16383, 32767, 65535, 131071, 262143, 524287, 1048575, 2097151, 2097151, 8388607, 16777215] (by kernel_rfl) ?_; (try (rw [List.append_eq]; simp only [List.cons_append, List.nil_append])); simp (maxSteps := 4000000) only [go_sem, List.getElem?_toArray, str_beq, reduceCtorEq, Nat.reduceEqDiff, Nat.reduceLT, Nat.reduceLeDiff, Nat.reduceAdd, Nat.reduceMul, Nat.reduceSub, Nat.reduceBEq, ↓reduceIte, bne_self_eq_false, Bool.and_false, Bool.false_and, Bool.true_or, Bool.false_or])
                                      | (refine tr_drawM (id := 35) follows [0, 0, 0, 6, 14, 30, 63, 0, 0, 0, 768, 1792, 3840, 8064, 16383, 32767, 65535, 65535, 65535, 458751, 983039, 2031615, 4194303, 8388607, 16777215, 33554431, 67108863, 134217727, 268435455, 536870911, 536870911, 1610612735, 4294967295, 8589934591, 17179869183, 536870911, 536870911, 103616086015, 241055039487, 515932946431, 1099511627775, 2199023255551, 4398046511103] (by kernel_rfl) ?_; (try (rw [List.append_eq]; simp only [List.cons_append, List.nil_append])); simp (maxSteps := 4000000) only [go_sem, List.getElem?_toArray, str_beq, reduceCtorEq, Nat.reduceEqDiff, Nat.reduceLT, Nat.reduceLeDiff, Nat.reduceAdd, Nat.reduceMul, Nat.reduceSub, Nat.reduceBEq, ↓reduceIte, bne_self_eq_false, Bool.and_false, Bool.false_and, Bool.true_or, Bool.false_or])
                                      | (refine call_givesW (c3) ?_; (try dsimp only); (try simp only [go_sem, List.getElem?_toArray, str_beq, reduceCtorEq, Nat.reduceEqDiff, Nat.reduceLT, Nat.reduceLeDiff, Nat.reduceAdd, Nat.reduceMul, Nat.reduceSub, Nat.reduceBEq, ↓reduceIte, bne_self_eq_false, Bool.and_false, Bool.false_and, Bool.true_or, Bool.false_or]))
                                      | refine k_of (by assumption) ?_
                                      | refine tr_block ?_
                                      | refine tr_scope ?_
                                      | (refine tr_skip ?_; try simp only [ex_seq, ex_block])
                                      | (refine tr_label ?_; try simp only [ex_seq, ex_block])
                                      | (refine tr_exit ?_; try simp only [ex_seq_exit, ex_block_exit, Nat.reduceEqDiff, if_true, if_false, ex_seq, ex_block, reduceCtorEq, ↓reduceIte])
                                      | (refine tr_ret ?_; try simp only [ex_seq_ret, ex_block_ret]))
                                  refine tr_cond rfl (fun ht => ?_) (fun hf => ?_)
                                  · cases ht
                                  · repeat (first
                                        | refine tr_seq_k fun _ _ => ?_
                                        | (refine tr_region ?_; simp only [go_sem, List.getElem?_toArray, str_beq, reduceCtorEq, Nat.reduceEqDiff, Nat.reduceLT, Nat.reduceLeDiff, Nat.reduceAdd, Nat.reduceMul, Nat.reduceSub, Nat.reduceBEq, ↓reduceIte, bne_self_eq_false, Bool.and_false, Bool.false_and, Bool.true_or, Bool.false_or, lk5, wg5, pk5, ws])
                                        | (refine tr_drawM (id := 19) follows [0, 1, 3, 7, 7, 31, 63, 127, 255, 255, 1023, 255, 255, 6399, 16383, 32767, 65535, 131071, 262143, 524287, 1048575, 2097151, 2097151, 8388607, 16777215] (by kernel_rfl) ?_; (try (rw [List.append_eq]; simp only [List.cons_append, List.nil_append])); simp (maxSteps := 4000000) only [go_sem, List.getElem?_toArray, str_beq, reduceCtorEq, Nat.reduceEqDiff, Nat.reduceLT, Nat.reduceLeDiff, Nat.reduceAdd, Nat.reduceMul, Nat.reduceSub, Nat.reduceBEq, ↓reduceIte, bne_self_eq_false, Bool.and_false, Bool.false_and, Bool.true_or, Bool.false_or, lk5, wg5, pk5, ws])
                                        | (refine tr_drawM (id := 35) follows [0, 0, 0, 6, 14, 30, 63, 0, 0, 0, 768, 1792, 3840, 8064, 16383, 32767, 65535, 65535, 65535, 458751, 983039, 2031615, 4194303, 8388607, 16777215, 33554431, 67108863, 134217727, 268435455, 536870911, 536870911, 1610612735, 4294967295, 8589934591, 17179869183, 536870911, 536870911, 103616086015, 241055039487, 515932946431, 1099511627775, 2199023255551, 4398046511103] (by kernel_rfl) ?_; (try (rw [List.append_eq]; simp only [List.cons_append, List.nil_append])); simp (maxSteps := 4000000) only [go_sem, List.getElem?_toArray, str_beq, reduceCtorEq, Nat.reduceEqDiff, Nat.reduceLT, Nat.reduceLeDiff, Nat.reduceAdd, Nat.reduceMul, Nat.reduceSub, Nat.reduceBEq, ↓reduceIte, bne_self_eq_false, Bool.and_false, Bool.false_and, Bool.true_or, Bool.false_or, lk5, wg5, pk5, ws])
                                        | refine k_of (by assumption) ?_
                                        | refine tr_block ?_
                                        | refine tr_scope ?_
                                        | (refine tr_skip ?_; try simp only [ex_seq, ex_block])
                                        | (refine tr_label ?_; try simp only [ex_seq, ex_block])
                                        | (refine tr_exit ?_; try simp only [ex_seq_exit, ex_block_exit, Nat.reduceEqDiff, if_true, if_false, ex_seq, ex_block, reduceCtorEq, ↓reduceIte])
                                        | (refine tr_ret ?_; try simp only [ex_seq_ret, ex_block_ret]))
                                    exact hK (m4, S3, E4, putL NM s2 (getL NM s2 - 1), mxM, i + 1) _ _ ⟨l4, hlt, hL4, hw40⟩ ⟨⟨rfl, rfl, rfl, rfl, rfl, rfl, trivial⟩, Keep.refl _, lowL l4.tab.lt l4.bt, l4.wf, hL4, by dsimp only; rw [hw40]; exact Nat.le_refl _⟩ (by dsimp only; omega)
                                · cases hf
                · cases hf
            · have g1 : decide ((1 : Int) ≤ (s.size : Nat)) = true := decide_eq_true (by omega)
              have g2 : decide ((s.size : Int) ≤ 255) = true := decide_eq_true (by omega)
              have hE1000 : E.length ≤ 1000 := by have := lt.fine.len; omega
              obtain ⟨m1, S1, c1, t1, k1⟩ := take_tab lt.tab lt.wf s hE1000 (fun e he => by have := lt.fine.use e he; omega)
              obtain ⟨n, tk1, cn1, at1, ln1⟩ := lt.cn.take hb hE1000 lt.len
              rw [tk1] at c1
              have f1 := lt.fine.take s
              have hcb := k1.old bm _ lt.out lt.cnt
              have htl := take_len E s
              generalize (takeS E s).2 = E1 at *
              have b1 := bin_neBo true
              repeat (first
                  | refine tr_seq_k fun _ _ => ?_
                  | (refine tr_region ?_; simp only [go_sem, List.getElem?_toArray, str_beq, reduceCtorEq, Nat.reduceEqDiff, Nat.reduceLT, Nat.reduceLeDiff, Nat.reduceAdd, Nat.reduceMul, Nat.reduceSub, Nat.reduceBEq, ↓reduceIte, bne_self_eq_false, Bool.and_false, Bool.false_and, Bool.true_or, Bool.false_or, d1])
                  | (refine tr_drawM (id := 19) follows [0, 1, 3, 7, 7, 31, 63, 127, 255, 255, 1023, 255, 255, 6399, 16383, 32767, 65535, 131071, 262143, 524287, 1048575, 2097151, 2097151, 8388607, 16777215] (by kernel_rfl) ?_; (try (rw [List.append_eq]; simp only [List.cons_append, List.nil_append])); simp (maxSteps := 4000000) only [go_sem, List.getElem?_toArray, str_beq, reduceCtorEq, Nat.reduceEqDiff, Nat.reduceLT, Nat.reduceLeDiff, Nat.reduceAdd, Nat.reduceMul, Nat.reduceSub, Nat.reduceBEq, ↓reduceIte, bne_self_eq_false, Bool.and_false, Bool.false_and, Bool.true_or, Bool.false_or, d1])
                  | (refine tr_drawM (id := 35) follows [0, 0, 0, 6, 14, 30, 63, 0, 0, 0, 768, 1792, 3840, 8064, 16383, 32767, 65535, 65535, 65535, 458751, 983039, 2031615, 4194303, 8388607, 16777215, 33554431, 67108863, 134217727, 268435455, 536870911, 536870911, 1610612735, 4294967295, 8589934591, 17179869183, 536870911, 536870911, 103616086015, 241055039487, 515932946431, 1099511627775, 2199023255551, 4398046511103] (by kernel_rfl) ?_; (try (rw [List.append_eq]; simp only [List.cons_append, List.nil_append])); simp (maxSteps := 4000000) only [go_sem, List.getElem?_toArray, str_beq, reduceCtorEq, Nat.reduceEqDiff, Nat.reduceLT, Nat.reduceLeDiff, Nat.reduceAdd, Nat.reduceMul, Nat.reduceSub, Nat.reduceBEq, ↓reduceIte, bne_self_eq_false, Bool.and_false, Bool.false_and, Bool.true_or, Bool.false_or, d1])
                  | refine k_of (by assumption) ?_
                  | refine tr_block ?_
                  | refine tr_scope ?_
                  | (refine tr_skip ?_; try simp only [ex_seq, ex_block])
                  | (refine tr_label ?_; try simp only [ex_seq, ex_block])
                  | (refine tr_exit ?_; try simp only [ex_seq_exit, ex_block_exit, Nat.reduceEqDiff, if_true, if_false, ex_seq, ex_block, reduceCtorEq, ↓reduceIte])
                  | (refine tr_ret ?_; try simp only [ex_seq_ret, ex_block_ret]))
              refine tr_cond rfl (fun ht => ?_) (fun hf => ?_)
              · have hgu : getL N s ≤ 2 * i := by
                  rcases Nat.eq_zero_or_pos (getL N s) with h0 | h0
                  · omega
                  · obtain ⟨h1, k, u, hk⟩ := lt.cn.dn s h0
                    have h2 := (lt.cn.up k s u hk h1).2
                    have := lt.fine.use _ (List.mem_of_getElem? hk)
                    simp only at this
                    omega
                have hse : s ≠ emp := fun e => hb (Or.inl ((emp_size s).1 e))
                have lk := look_cnt hcb s
                have wg : IntKind.i64.wrap (((getL N s : Nat) : Int) + 1) = ((getL N s + 1 : Nat) : Int) := by rw [wrap_in (by omega)]; rfl
                have pk := put_cnt hcb s (getL N s + 1)
                have hb1 : bm < m1.hp.length := (List.getElem?_eq_some_iff.1 hcb).1
                have hout1 : bm ∉ S1 := fun h => by
                  rcases k1.new _ h with h | h
                  · exact lt.out h
                  · have := lt.bt; omega
                obtain ⟨m2, hm2⟩ : ∃ m2, m2 = setB m1 bm ⟨false, [.ent (nmI (putL N s (getL N s + 1)))]⟩ := ⟨_, rfl⟩
                obtain ⟨t2, w2⟩ := TabM.setCnt t1 k1.wf hout1 (blk := ⟨false, [.ent (nmI (putL N s (getL N s + 1)))]⟩) rfl hb1
                have hc2 : (setB m1 bm ⟨false, [.ent (nmI (putL N s (getL N s + 1)))]⟩).hp[bm]? = some ⟨false, [.ent (nmI (putL N s (getL N s + 1)))]⟩ := setB_self hb1 _
                rw [← hm2] at t2 w2 hc2 pk
                have hl2 : m2.hp.length = m1.hp.length := by rw [hm2]; exact setB_len _ _ _
                have hw2 : m2.hw = m1.hw := by rw [hm2]; rfl
                clear hm2
                have cLen := len_tab t2
                obtain ⟨a1, a2, a3⟩ := at_has at1 hse
                have cTx := text_tab t2 (n : Int)
                rw [a1, a2, if_pos rfl] at cTx
                have cUs := uses_tab t2 (n : Int)
                rw [a3] at cUs
                have lk2 := look_cnt hc2 s
                rw [getL_put, if_pos rfl] at lk2
                have hn1 : n < E1.length := (List.getElem?_eq_some_iff.1 at1).1
                have mxi := fun ts t => max_int ts t mx (liveN E1)
                have g3 : decide ((n : Int) < 0) = false := decide_eq_false (by omega)
                have g4 : decide (((max mx (liveN E1) : Nat) : Int) ≤ (n : Nat)) = false := decide_eq_false (by omega)
                have hE1i : E1.length ≤ 2 * i + 1 := f1.len
                repeat (first
                    | refine tr_seq_k fun _ _ => ?_
                    | (refine tr_region ?_; simp only [go_sem, List.getElem?_toArray, str_beq, reduceCtorEq, Nat.reduceEqDiff, Nat.reduceLT, Nat.reduceLeDiff, Nat.reduceAdd, Nat.reduceMul, Nat.reduceSub, Nat.reduceBEq, ↓reduceIte, bne_self_eq_false, Bool.and_false, Bool.false_and, Bool.true_or, Bool.false_or, ix, g1, g2, b1])
                    | (refine tr_drawM (id := 19) follows [0, 1, 3, 7, 7, 31, 63, 127, 255, 255, 1023, 255, 255, 6399, 16383, 32767, 65535, 131071, 262143, 524287, 1048575, 2097151, 2097151, 8388607, 16777215] (by kernel_rfl) ?_; (try (rw [List.append_eq]; simp only [List.cons_append, List.nil_append])); simp (maxSteps := 4000000) only [go_sem, List.getElem?_toArray, str_beq, reduceCtorEq, Nat.reduceEqDiff, Nat.reduceLT, Nat.reduceLeDiff, Nat.reduceAdd, Nat.reduceMul, Nat.reduceSub, Nat.reduceBEq, ↓reduceIte, bne_self_eq_false, Bool.and_false, Bool.false_and, Bool.true_or, Bool.false_or, ix, g1, g2, b1])
                    | (refine tr_drawM (id := 35) follows [0, 0, 0, 6, 14, 30, 63, 0, 0, 0, 768, 1792, 3840, 8064, 16383, 32767, 65535, 65535, 65535, 458751, 983039, 2031615, 4194303, 8388607, 16777215, 33554431, 67108863, 134217727, 268435455, 536870911, 536870911, 1610612735, 4294967295, 8589934591, 17179869183, 536870911, 536870911, 103616086015, 241055039487, 515932946431, 1099511627775, 2199023255551, 4398046511103] (by kernel_rfl) ?_; (try (rw [List.append_eq]; simp only [List.cons_append, List.nil_append])); simp (maxSteps := 4000000) only [go_sem, List.getElem?_toArray, str_beq, reduceCtorEq, Nat.reduceEqDiff, Nat.reduceLT, Nat.reduceLeDiff, Nat.reduceAdd, Nat.reduceMul, Nat.reduceSub, Nat.reduceBEq, ↓reduceIte, bne_self_eq_false, Bool.and_false, Bool.false_and, Bool.true_or, Bool.false_or, ix, g1, g2, b1])
                    | (refine call_givesW (c1) ?_; (try dsimp only); (try simp only [go_sem, List.getElem?_toArray, str_beq, reduceCtorEq, Nat.reduceEqDiff, Nat.reduceLT, Nat.reduceLeDiff, Nat.reduceAdd, Nat.reduceMul, Nat.reduceSub, Nat.reduceBEq, ↓reduceIte, bne_self_eq_false, Bool.and_false, Bool.false_and, Bool.true_or, Bool.false_or, ix, g1, g2, b1]))
                    | refine k_of (by assumption) ?_
                    | refine tr_block ?_
                    | refine tr_scope ?_
                    | (refine tr_skip ?_; try simp only [ex_seq, ex_block])
                    | (refine tr_label ?_; try simp only [ex_seq, ex_block])
                    | (refine tr_exit ?_; try simp only [ex_seq_exit, ex_block_exit, Nat.reduceEqDiff, if_true, if_false, ex_seq, ex_block, reduceCtorEq, ↓reduceIte])
                    | (refine tr_ret ?_; try simp only [ex_seq_ret, ex_block_ret]))
                refine tr_cond rfl (fun ht => ?_) (fun hf => ?_)
                · cases ht
                · repeat (first
                      | refine tr_seq_k fun _ _ => ?_
                      | (refine tr_region ?_; simp only [go_sem, List.getElem?_toArray, str_beq, reduceCtorEq, Nat.reduceEqDiff, Nat.reduceLT, Nat.reduceLeDiff, Nat.reduceAdd, Nat.reduceMul, Nat.reduceSub, Nat.reduceBEq, ↓reduceIte, bne_self_eq_false, Bool.and_false, Bool.false_and, Bool.true_or, Bool.false_or])
                      | (refine tr_drawM (id := 19) follows [0, 1, 3, 7, 7, 31, 63, 127, 255, 255, 1023, 255, 255, 6399, 16383, 32767, 65535, 131071, 262143, 524287, 1048575, 2097151, 2097151, 8388607, 16777215] (by kernel_rfl) ?_; (try (rw [List.append_eq]; simp only [List.cons_append, List.nil_append])); simp (maxSteps := 4000000) only [go_sem, List.getElem?_toArray, str_beq, reduceCtorEq, Nat.reduceEqDiff, Nat.reduceLT, Nat.reduceLeDiff, Nat.reduceAdd, Nat.reduceMul, Nat.reduceSub, Nat.reduceBEq, ↓reduceIte, bne_self_eq_false, Bool.and_false, Bool.false_and, Bool.true_or, Bool.false_or])
                      | (refine tr_drawM (id := 35) follows [0, 0, 0, 6, 14, 30, 63, 0, 0, 0, 768, 1792, 3840, 8064, 16383, 32767, 65535, 65535, 65535, 458751, 983039, 2031615, 4194303, 8388607, 16777215, 33554431, 67108863, 134217727, 268435455, 536870911, 536870911, 1610612735, 4294967295, 8589934591, 17179869183, 536870911, 536870911, 103616086015, 241055039487, 515932946431, 1099511627775, 2199023255551, 4398046511103] (by kernel_rfl) ?_; (try (rw [List.append_eq]; simp only [List.cons_append, List.nil_append])); simp (maxSteps := 4000000) only [go_sem, List.getElem?_toArray, str_beq, reduceCtorEq, Nat.reduceEqDiff, Nat.reduceLT, Nat.reduceLeDiff, Nat.reduceAdd, Nat.reduceMul, Nat.reduceSub, Nat.reduceBEq, ↓reduceIte, bne_self_eq_false, Bool.and_false, Bool.false_and, Bool.true_or, Bool.false_or])
                      | refine k_of (by assumption) ?_
                      | refine tr_block ?_
                      | refine tr_scope ?_
                      | (refine tr_skip ?_; try simp only [ex_seq, ex_block])
                      | (refine tr_label ?_; try simp only [ex_seq, ex_block])
                      | (refine tr_exit ?_; try simp only [ex_seq_exit, ex_block_exit, Nat.reduceEqDiff, if_true, if_false, ex_seq, ex_block, reduceCtorEq, ↓reduceIte])
                      | (refine tr_ret ?_; try simp only [ex_seq_ret, ex_block_ret]))
                  refine tr_cond rfl (fun ht => ?_) (fun hf => ?_)
                  · repeat (first
                        | refine tr_seq_k fun _ _ => ?_
                        | (refine tr_region ?_; simp only [go_sem, List.getElem?_toArray, str_beq, reduceCtorEq, Nat.reduceEqDiff, Nat.reduceLT, Nat.reduceLeDiff, Nat.reduceAdd, Nat.reduceMul, Nat.reduceSub, Nat.reduceBEq, ↓reduceIte, bne_self_eq_false, Bool.and_false, Bool.false_and, Bool.true_or, Bool.false_or, lk, wg, pk, lk2, mxi, g3, g4])
                        | (refine tr_drawM (id := 19) follows [0, 1, 3, 7, 7, 31, 63, 127, 255, 255, 1023, 255, 255, 6399, 16383, 32767, 65535, 131071, 262143, 524287, 1048575, 2097151, 2097151, 8388607, 16777215] (by kernel_rfl) ?_; (try (rw [List.append_eq]; simp only [List.cons_append, List.nil_append])); simp (maxSteps := 4000000) only [go_sem, List.getElem?_toArray, str_beq, reduceCtorEq, Nat.reduceEqDiff, Nat.reduceLT, Nat.reduceLeDiff, Nat.reduceAdd, Nat.reduceMul, Nat.reduceSub, Nat.reduceBEq, ↓reduceIte, bne_self_eq_false, Bool.and_false, Bool.false_and, Bool.true_or, Bool.false_or, lk, wg, pk, lk2, mxi, g3, g4])
                        | (refine tr_drawM (id := 35) follows [0, 0, 0, 6, 14, 30, 63, 0, 0, 0, 768, 1792, 3840, 8064, 16383, 32767, 65535, 65535, 65535, 458751, 983039, 2031615, 4194303, 8388607, 16777215, 33554431, 67108863, 134217727, 268435455, 536870911, 536870911, 1610612735, 4294967295, 8589934591, 17179869183, 536870911, 536870911, 103616086015, 241055039487, 515932946431, 1099511627775, 2199023255551, 4398046511103] (by kernel_rfl) ?_; (try (rw [List.append_eq]; simp only [List.cons_append, List.nil_append])); simp (maxSteps := 4000000) only [go_sem, List.getElem?_toArray, str_beq, reduceCtorEq, Nat.reduceEqDiff, Nat.reduceLT, Nat.reduceLeDiff, Nat.reduceAdd, Nat.reduceMul, Nat.reduceSub, Nat.reduceBEq, ↓reduceIte, bne_self_eq_false, Bool.and_false, Bool.false_and, Bool.true_or, Bool.false_or, lk, wg, pk, lk2, mxi, g3, g4])
                        | (refine call_givesW (cLen) ?_; (try dsimp only); (try simp only [go_sem, List.getElem?_toArray, str_beq, reduceCtorEq, Nat.reduceEqDiff, Nat.reduceLT, Nat.reduceLeDiff, Nat.reduceAdd, Nat.reduceMul, Nat.reduceSub, Nat.reduceBEq, ↓reduceIte, bne_self_eq_false, Bool.and_false, Bool.false_and, Bool.true_or, Bool.false_or, lk, wg, pk, lk2, mxi, g3, g4]))
                        | (refine call_givesW (cTx) ?_; (try dsimp only); (try simp only [go_sem, List.getElem?_toArray, str_beq, reduceCtorEq, Nat.reduceEqDiff, Nat.reduceLT, Nat.reduceLeDiff, Nat.reduceAdd, Nat.reduceMul, Nat.reduceSub, Nat.reduceBEq, ↓reduceIte, bne_self_eq_false, Bool.and_false, Bool.false_and, Bool.true_or, Bool.false_or, lk, wg, pk, lk2, mxi, g3, g4]))
                        | (refine call_givesW (cUs) ?_; (try dsimp only); (try simp only [go_sem, List.getElem?_toArray, str_beq, reduceCtorEq, Nat.reduceEqDiff, Nat.reduceLT, Nat.reduceLeDiff, Nat.reduceAdd, Nat.reduceMul, Nat.reduceSub, Nat.reduceBEq, ↓reduceIte, bne_self_eq_false, Bool.and_false, Bool.false_and, Bool.true_or, Bool.false_or, lk, wg, pk, lk2, mxi, g3, g4]))
                        | refine k_of (by assumption) ?_
                        | refine tr_block ?_
                        | refine tr_scope ?_
                        | (refine tr_skip ?_; try simp only [ex_seq, ex_block])
                        | (refine tr_label ?_; try simp only [ex_seq, ex_block])
                        | (refine tr_exit ?_; try simp only [ex_seq_exit, ex_block_exit, Nat.reduceEqDiff, if_true, if_false, ex_seq, ex_block, reduceCtorEq, ↓reduceIte])
                        | (refine tr_ret ?_; try simp only [ex_seq_ret, ex_block_ret]))
                    refine tr_cond rfl (fun ht => ?_) (fun hf => ?_)
                    · cases ht
                    · have lm : Lt T bt bm m2 S1 E1 (putL N s (getL N s + 1)) (max mx (liveN E1)) (2 * i + 1) (i + 1) := ⟨t2, w2, hc2, hout1, f1, cn1, ln1, by have := liveN_le E1; have := lt.len; have := lt.mx; omega, fun t ht => by
                        rcases (keys_put _ _ _ t).1 ht with rfl | h
                        · exact hsT
                        · exact lt.keys t h, nd_put lt.nd _ _⟩
                      have hLM : m0.hp.length ≤ m2.hp.length := by rw [hl2]; exact Nat.le_trans hL0 k1.len
                      have hwM : m2.hw = m0.hw := hw2.trans (k1.hw.trans hw0)
                      clear lk wg pk cLen cTx cUs lk2 mxi g3 g4 c1 t1 k1 hcb hc2 t2 w2
                      generalize putL N s (getL N s + 1) = NM at *
                      generalize max mx (liveN E1) = mxM at *
                      generalize m2 = mM at *
                      generalize E1 = EM at *
                      generalize S1 = SM at *
                      cases d2 : decide ((D.length : Int) ≤ (i : Nat)) with
                      | true =>
                        repeat (first
                            | refine tr_seq_k fun _ _ => ?_
                            | (refine tr_region ?_; simp only [go_sem, List.getElem?_toArray, str_beq, reduceCtorEq, Nat.reduceEqDiff, Nat.reduceLT, Nat.reduceLeDiff, Nat.reduceAdd, Nat.reduceMul, Nat.reduceSub, Nat.reduceBEq, ↓reduceIte, bne_self_eq_false, Bool.and_false, Bool.false_and, Bool.true_or, Bool.false_or, d2])
                            | (refine tr_drawM (id := 19) follows [0, 1, 3, 7, 7, 31, 63, 127, 255, 255, 1023, 255, 255, 6399, 16383, 32767, 65535, 131071, 262143, 524287, 1048575, 2097151, 2097151, 8388607, 16777215] (by kernel_rfl) ?_; (try (rw [List.append_eq]; simp only [List.cons_append, List.nil_append])); simp (maxSteps := 4000000) only [go_sem, List.getElem?_toArray, str_beq, reduceCtorEq, Nat.reduceEqDiff, Nat.reduceLT, Nat.reduceLeDiff, Nat.reduceAdd, Nat.reduceMul, Nat.reduceSub, Nat.reduceBEq, ↓reduceIte, bne_self_eq_false, Bool.and_false, Bool.false_and, Bool.true_or, Bool.false_or, d2])
                            | (refine tr_drawM (id := 35) follows [0, 0, 0, 6, 14, 30, 63, 0, 0, 0, 768, 1792, 3840, 8064, 16383, 32767, 65535, 65535, 65535, 458751, 983039, 2031615, 4194303, 8388607, 16777215, 33554431, 67108863, 134217727, 268435455, 536870911, 536870911, 1610612735, 4294967295, 8589934591, 17179869183, 536870911, 536870911, 103616086015, 241055039487, 515932946431, 1099511627775, 2199023255551, 4398046511103] (by kernel_rfl) ?_; (try (rw [List.append_eq]; simp only [List.cons_append, List.nil_append])); simp (maxSteps := 4000000) only [go_sem, List.getElem?_toArray, str_beq, reduceCtorEq, Nat.reduceEqDiff, Nat.reduceLT, Nat.reduceLeDiff, Nat.reduceAdd, Nat.reduceMul, Nat.reduceSub, Nat.reduceBEq, ↓reduceIte, bne_self_eq_false, Bool.and_false, Bool.false_and, Bool.true_or, Bool.false_or, d2])
                            | refine k_of (by assumption) ?_
                            | refine tr_block ?_
                            | refine tr_scope ?_
                            | (refine tr_skip ?_; try simp only [ex_seq, ex_block])
                            | (refine tr_label ?_; try simp only [ex_seq, ex_block])
                            | (refine tr_exit ?_; try simp only [ex_seq_exit, ex_block_exit, Nat.reduceEqDiff, if_true, if_false, ex_seq, ex_block, reduceCtorEq, ↓reduceIte])
                            | (refine tr_ret ?_; try simp only [ex_seq_ret, ex_block_ret]))
                        refine tr_cond rfl (fun ht => ?_) (fun hf => ?_)
                        · repeat (first
                              | refine tr_seq_k fun _ _ => ?_
                              | (refine tr_region ?_; simp only [go_sem, List.getElem?_toArray, str_beq, reduceCtorEq, Nat.reduceEqDiff, Nat.reduceLT, Nat.reduceLeDiff, Nat.reduceAdd, Nat.reduceMul, Nat.reduceSub, Nat.reduceBEq, ↓reduceIte, bne_self_eq_false, Bool.and_false, Bool.false_and, Bool.true_or, Bool.false_or, ws])
                              | (refine tr_drawM (id := 19) follows [0, 1, 3, 7, 7, 31, 63, 127, 255, 255, 1023, 255, 255, 6399, 16383, 32767, 65535, 131071, 262143, 524287, 1048575, 2097151, 2097151, 8388607, 16777215] (by kernel_rfl) ?_; (try (rw [List.append_eq]; simp only [List.cons_append, List.nil_append])); simp (maxSteps := 4000000) only [go_sem, List.getElem?_toArray, str_beq, reduceCtorEq, Nat.reduceEqDiff, Nat.reduceLT, Nat.reduceLeDiff, Nat.reduceAdd, Nat.reduceMul, Nat.reduceSub, Nat.reduceBEq, ↓reduceIte, bne_self_eq_false, Bool.and_false, Bool.false_and, Bool.true_or, Bool.false_or, ws])
                              | (refine tr_drawM (id := 35) follows [0, 0, 0, 6, 14, 30, 63, 0, 0, 0, 768, 1792, 3840, 8064, 16383, 32767, 65535, 65535, 65535, 458751, 983039, 2031615, 4194303, 8388607, 16777215, 33554431, 67108863, 134217727, 268435455, 536870911, 536870911, 1610612735, 4294967295, 8589934591, 17179869183, 536870911, 536870911, 103616086015, 241055039487, 515932946431, 1099511627775, 2199023255551, 4398046511103] (by kernel_rfl) ?_; (try (rw [List.append_eq]; simp only [List.cons_append, List.nil_append])); simp (maxSteps := 4000000) only [go_sem, List.getElem?_toArray, str_beq, reduceCtorEq, Nat.reduceEqDiff, Nat.reduceLT, Nat.reduceLeDiff, Nat.reduceAdd, Nat.reduceMul, Nat.reduceSub, Nat.reduceBEq, ↓reduceIte, bne_self_eq_false, Bool.and_false, Bool.false_and, Bool.true_or, Bool.false_or, ws])
                              | refine k_of (by assumption) ?_
                              | refine tr_block ?_
                              | refine tr_scope ?_
                              | (refine tr_skip ?_; try simp only [ex_seq, ex_block])
                              | (refine tr_label ?_; try simp only [ex_seq, ex_block])
                              | (refine tr_exit ?_; try simp only [ex_seq_exit, ex_block_exit, Nat.reduceEqDiff, if_true, if_false, ex_seq, ex_block, reduceCtorEq, ↓reduceIte])
                              | (refine tr_ret ?_; try simp only [ex_seq_ret, ex_block_ret]))
                          exact hK (mM, SM, EM, NM, mxM, i + 1) _ _ ⟨lm.up (by dsimp only; omega) (Nat.le_refl _), hlt, hLM, hwM⟩ ⟨⟨rfl, rfl, rfl, rfl, rfl, rfl, trivial⟩, Keep.refl _, lowL lm.tab.lt lm.bt, lm.wf, hLM, by dsimp only; rw [hwM]; exact Nat.le_refl _⟩ (by dsimp only; omega)
                        · cases hf
                      | false =>
                        have hiD : i < D.length := by have := of_decide_eq_false d2; omega
                        have ij := idxJ (ex := ex2) hiD
                        generalize D[i] = dd at ij
                        cases d3 : decide (dd < 0) with
                        | true =>
                          repeat (first
                              | refine tr_seq_k fun _ _ => ?_
                              | (refine tr_region ?_; simp only [go_sem, List.getElem?_toArray, str_beq, reduceCtorEq, Nat.reduceEqDiff, Nat.reduceLT, Nat.reduceLeDiff, Nat.reduceAdd, Nat.reduceMul, Nat.reduceSub, Nat.reduceBEq, ↓reduceIte, bne_self_eq_false, Bool.and_false, Bool.false_and, Bool.true_or, Bool.false_or, d2, d3, ij])
                              | (refine tr_drawM (id := 19) follows [0, 1, 3, 7, 7, 31, 63, 127, 255, 255, 1023, 255, 255, 6399, 16383, 32767, 65535, 131071, 262143, 524287, 1048575, 2097151, 2097151, 8388607, 16777215] (by kernel_rfl) ?_; (try (rw [List.append_eq]; simp only [List.cons_append, List.nil_append])); simp (maxSteps := 4000000) only [go_sem, List.getElem?_toArray, str_beq, reduceCtorEq, Nat.reduceEqDiff, Nat.reduceLT, Nat.reduceLeDiff, Nat.reduceAdd, Nat.reduceMul, Nat.reduceSub, Nat.reduceBEq, ↓reduceIte, bne_self_eq_false, Bool.and_false, Bool.false_and, Bool.true_or, Bool.false_or, d2, d3, ij])
                              | (refine tr_drawM (id := 35) follows [0, 0, 0, 6, 14, 30, 63, 0, 0, 0, 768, 1792, 3840, 8064, 16383, 32767, 65535, 65535, 65535, 458751, 983039, 2031615, 4194303, 8388607, 16777215, 33554431, 67108863, 134217727, 268435455, 536870911, 536870911, 1610612735, 4294967295, 8589934591, 17179869183, 536870911, 536870911, 103616086015, 241055039487, 515932946431, 1099511627775, 2199023255551, 4398046511103] (by kernel_rfl) ?_; (try (rw [List.append_eq]; simp only [List.cons_append, List.nil_append])); simp (maxSteps := 4000000) only [go_sem, List.getElem?_toArray, str_beq, reduceCtorEq, Nat.reduceEqDiff, Nat.reduceLT, Nat.reduceLeDiff, Nat.reduceAdd, Nat.reduceMul, Nat.reduceSub, Nat.reduceBEq, ↓reduceIte, bne_self_eq_false, Bool.and_false, Bool.false_and, Bool.true_or, Bool.false_or, d2, d3, ij])
                              | refine k_of (by assumption) ?_
                              | refine tr_block ?_
                              | refine tr_scope ?_
                              | (refine tr_skip ?_; try simp only [ex_seq, ex_block])
                              | (refine tr_label ?_; try simp only [ex_seq, ex_block])
                              | (refine tr_exit ?_; try simp only [ex_seq_exit, ex_block_exit, Nat.reduceEqDiff, if_true, if_false, ex_seq, ex_block, reduceCtorEq, ↓reduceIte])
                              | (refine tr_ret ?_; try simp only [ex_seq_ret, ex_block_ret]))
                          refine tr_cond rfl (fun ht => ?_) (fun hf => ?_)
                          · repeat (first
                                | refine tr_seq_k fun _ _ => ?_
                                | (refine tr_region ?_; simp only [go_sem, List.getElem?_toArray, str_beq, reduceCtorEq, Nat.reduceEqDiff, Nat.reduceLT, Nat.reduceLeDiff, Nat.reduceAdd, Nat.reduceMul, Nat.reduceSub, Nat.reduceBEq, ↓reduceIte, bne_self_eq_false, Bool.and_false, Bool.false_and, Bool.true_or, Bool.false_or, ws])
                                | (refine tr_drawM (id := 19) follows [0, 1, 3, 7, 7, 31, 63, 127, 255, 255, 1023, 255, 255, 6399, 16383, 32767, 65535, 131071, 262143, 524287, 1048575, 2097151, 2097151, 8388607, 16777215] (by kernel_rfl) ?_; (try (rw [List.append_eq]; simp only [List.cons_append, List.nil_append])); simp (maxSteps := 4000000) only [go_sem, List.getElem?_toArray, str_beq, reduceCtorEq, Nat.reduceEqDiff, Nat.reduceLT, Nat.reduceLeDiff, Nat.reduceAdd, Nat.reduceMul, Nat.reduceSub, Nat.reduceBEq, ↓reduceIte, bne_self_eq_false, Bool.and_false, Bool.false_and, Bool.true_or, Bool.false_or, ws])
                                | (refine tr_drawM (id := 35) follows [0, 0, 0, 6, 14, 30, 63, 0, 0, 0, 768, 1792, 3840, 8064, 16383, 32767, 65535, 65535, 65535, 458751, 983039, 2031615, 4194303, 8388607, 16777215, 33554431, 67108863, 134217727, 268435455, 536870911, 536870911, 1610612735, 4294967295, 8589934591, 17179869183, 536870911, 536870911, 103616086015, 241055039487, 515932946431, 1099511627775, 2199023255551, 4398046511103] (by kernel_rfl) ?_; (try (rw [List.append_eq]; simp only [List.cons_append, List.nil_append])); simp (maxSteps := 4000000) only [go_sem, List.getElem?_toArray, str_beq, reduceCtorEq, Nat.reduceEqDiff, Nat.reduceLT, Nat.reduceLeDiff, Nat.reduceAdd, Nat.reduceMul, Nat.reduceSub, Nat.reduceBEq, ↓reduceIte, bne_self_eq_false, Bool.and_false, Bool.false_and, Bool.true_or, Bool.false_or, ws])
                                | refine k_of (by assumption) ?_
                                | refine tr_block ?_
                                | refine tr_scope ?_
                                | (refine tr_skip ?_; try simp only [ex_seq, ex_block])
                                | (refine tr_label ?_; try simp only [ex_seq, ex_block])
                                | (refine tr_exit ?_; try simp only [ex_seq_exit, ex_block_exit, Nat.reduceEqDiff, if_true, if_false, ex_seq, ex_block, reduceCtorEq, ↓reduceIte])
                                | (refine tr_ret ?_; try simp only [ex_seq_ret, ex_block_ret]))
                            exact hK (mM, SM, EM, NM, mxM, i + 1) _ _ ⟨lm.up (by dsimp only; omega) (Nat.le_refl _), hlt, hLM, hwM⟩ ⟨⟨rfl, rfl, rfl, rfl, rfl, rfl, trivial⟩, Keep.refl _, lowL lm.tab.lt lm.bt, lm.wf, hLM, by dsimp only; rw [hwM]; exact Nat.le_refl _⟩ (by dsimp only; omega)
                          · cases hf
                        | false =>
                          repeat (first
                              | refine tr_seq_k fun _ _ => ?_
                              | (refine tr_region ?_; simp only [go_sem, List.getElem?_toArray, str_beq, reduceCtorEq, Nat.reduceEqDiff, Nat.reduceLT, Nat.reduceLeDiff, Nat.reduceAdd, Nat.reduceMul, Nat.reduceSub, Nat.reduceBEq, ↓reduceIte, bne_self_eq_false, Bool.and_false, Bool.false_and, Bool.true_or, Bool.false_or, d2, d3, ij])
                              | (refine tr_drawM (id := 19) follows [0, 1, 3, 7, 7, 31, 63, 127, 255, 255, 1023, 255, 255, 6399, 16383, 32767, 65535, 131071, 262143, 524287, 1048575, 2097151, 2097151, 8388607, 16777215] (by kernel_rfl) ?_; (try (rw [List.append_eq]; simp only [List.cons_append, List.nil_append])); simp (maxSteps := 4000000) only [go_sem, List.getElem?_toArray, str_beq, reduceCtorEq, Nat.reduceEqDiff, Nat.reduceLT, Nat.reduceLeDiff, Nat.reduceAdd, Nat.reduceMul, Nat.reduceSub, Nat.reduceBEq, ↓reduceIte, bne_self_eq_false, Bool.and_false, Bool.false_and, Bool.true_or, Bool.false_or, d2, d3, ij])
                              | (refine tr_drawM (id := 35) follows [0, 0, 0, 6, 14, 30, 63, 0, 0, 0, 768, 1792, 3840, 8064, 16383, 32767, 65535, 65535, 65535, 458751, 983039, 2031615, 4194303, 8388607, 16777215, 33554431, 67108863, 134217727, 268435455, 536870911, 536870911, 1610612735, 4294967295, 8589934591, 17179869183, 536870911, 536870911, 103616086015, 241055039487, 515932946431, 1099511627775, 2199023255551, 4398046511103] (by kernel_rfl) ?_; (try (rw [List.append_eq]; simp only [List.cons_append, List.nil_append])); simp (maxSteps := 4000000) only [go_sem, List.getElem?_toArray, str_beq, reduceCtorEq, Nat.reduceEqDiff, Nat.reduceLT, Nat.reduceLeDiff, Nat.reduceAdd, Nat.reduceMul, Nat.reduceSub, Nat.reduceBEq, ↓reduceIte, bne_self_eq_false, Bool.and_false, Bool.false_and, Bool.true_or, Bool.false_or, d2, d3, ij])
                              | refine k_of (by assumption) ?_
                              | refine tr_block ?_
                              | refine tr_scope ?_
                              | (refine tr_skip ?_; try simp only [ex_seq, ex_block])
                              | (refine tr_label ?_; try simp only [ex_seq, ex_block])
                              | (refine tr_exit ?_; try simp only [ex_seq_exit, ex_block_exit, Nat.reduceEqDiff, if_true, if_false, ex_seq, ex_block, reduceCtorEq, ↓reduceIte])
                              | (refine tr_ret ?_; try simp only [ex_seq_ret, ex_block_ret]))
                          refine tr_cond rfl (fun ht => ?_) (fun hf => ?_)
                          · cases ht
                          · have cP := pick_does dd ((i + 1 : Nat) : Int) (by omega)
                            have hpi := pickN_in dd (show (1 : Int) ≤ ((i + 1 : Nat) : Int) by omega)
                            obtain ⟨p, hp⟩ : ∃ p : Nat, pickN dd ((i + 1 : Nat) : Int) = (p : Int) := ⟨(pickN dd ((i + 1 : Nat) : Int)).toNat, by omega⟩
                            rw [hp] at cP hpi
                            have hpT : p < T.length := by omega
                            have ip := idxT (ex := ex) hpT
                            generalize hs2 : T[p] = s2 at ip
                            have hs2T : s2 ∈ T := hs2 ▸ List.getElem_mem hpT
                            have cF := find_tab lm.tab s2
                            have lk4 := look_cnt lm.cnt s2
                            have h0 := lm.cn.find0 (s := s2)
                            have hdI : decide ((0 : Int) < ((getL NM s2 : Nat) : Int)) = decide (0 < getL NM s2) := decide_eq_decide.2 (by omega)
                            rw [← h0] at hdI
                            cases hfs : findS EM s2 with
                            | none =>
                              rw [hfs] at cF hdI
                              have cF : GivesW Try.prog 15 [.ptr bt 0, sA s2] mM (.tup [iA ((0 : Nat) : Int), bA false]) mM := cF
                              have hdI : decide ((0 : Int) < ((getL NM s2 : Nat) : Int)) = false := hdI
                              have b0 := bin_neBo false
                              repeat (first
                                  | refine tr_seq_k fun _ _ => ?_
                                  | (refine tr_region ?_; simp only [go_sem, List.getElem?_toArray, str_beq, reduceCtorEq, Nat.reduceEqDiff, Nat.reduceLT, Nat.reduceLeDiff, Nat.reduceAdd, Nat.reduceMul, Nat.reduceSub, Nat.reduceBEq, ↓reduceIte, bne_self_eq_false, Bool.and_false, Bool.false_and, Bool.true_or, Bool.false_or, ij, ip, ws, lk4, hdI, b0])
                                  | (refine tr_drawM (id := 19) follows [0, 1, 3, 7, 7, 31, 63, 127, 255, 255, 1023, 255, 255, 6399, 16383, 32767, 65535, 131071, 262143, 524287, 1048575, 2097151, 2097151, 8388607, 16777215] (by kernel_rfl) ?_; (try (rw [List.append_eq]; simp only [List.cons_append, List.nil_append])); simp (maxSteps := 4000000) only [go_sem, List.getElem?_toArray, str_beq, reduceCtorEq, Nat.reduceEqDiff, Nat.reduceLT, Nat.reduceLeDiff, Nat.reduceAdd, Nat.reduceMul, Nat.reduceSub, Nat.reduceBEq, ↓reduceIte, bne_self_eq_false, Bool.and_false, Bool.false_and, Bool.true_or, Bool.false_or, ij, ip, ws, lk4, hdI, b0])
                                  | (refine tr_drawM (id := 35) follows [0, 0, 0, 6, 14, 30, 63, 0, 0, 0, 768, 1792, 3840, 8064, 16383, 32767, 65535, 65535, 65535, 458751, 983039, 2031615, 4194303, 8388607, 16777215, 33554431, 67108863, 134217727, 268435455, 536870911, 536870911, 1610612735, 4294967295, 8589934591, 17179869183, 536870911, 536870911, 103616086015, 241055039487, 515932946431, 1099511627775, 2199023255551, 4398046511103] (by kernel_rfl) ?_; (try (rw [List.append_eq]; simp only [List.cons_append, List.nil_append])); simp (maxSteps := 4000000) only [go_sem, List.getElem?_toArray, str_beq, reduceCtorEq, Nat.reduceEqDiff, Nat.reduceLT, Nat.reduceLeDiff, Nat.reduceAdd, Nat.reduceMul, Nat.reduceSub, Nat.reduceBEq, ↓reduceIte, bne_self_eq_false, Bool.and_false, Bool.false_and, Bool.true_or, Bool.false_or, ij, ip, ws, lk4, hdI, b0])
                                  | (refine call_of (cP) ?_ ?_
                                     · first | rfl | simp only [go_sem, List.getElem?_toArray, str_beq, reduceCtorEq, Nat.reduceEqDiff, Nat.reduceLT, Nat.reduceLeDiff, Nat.reduceAdd, Nat.reduceMul, Nat.reduceSub, Nat.reduceBEq, ↓reduceIte, bne_self_eq_false, Bool.and_false, Bool.false_and, Bool.true_or, Bool.false_or, ij, ip, ws, lk4, hdI, b0, shut_col]
                                     simp only [go_sem, List.getElem?_toArray, str_beq, reduceCtorEq, Nat.reduceEqDiff, Nat.reduceLT, Nat.reduceLeDiff, Nat.reduceAdd, Nat.reduceMul, Nat.reduceSub, Nat.reduceBEq, ↓reduceIte, bne_self_eq_false, Bool.and_false, Bool.false_and, Bool.true_or, Bool.false_or, ij, ip, ws, lk4, hdI, b0])
                                  | (refine call_givesW (cF) ?_; (try dsimp only); (try simp only [go_sem, List.getElem?_toArray, str_beq, reduceCtorEq, Nat.reduceEqDiff, Nat.reduceLT, Nat.reduceLeDiff, Nat.reduceAdd, Nat.reduceMul, Nat.reduceSub, Nat.reduceBEq, ↓reduceIte, bne_self_eq_false, Bool.and_false, Bool.false_and, Bool.true_or, Bool.false_or, ij, ip, ws, lk4, hdI, b0]))
                                  | refine k_of (by assumption) ?_
                                  | refine tr_block ?_
                                  | refine tr_scope ?_
                                  | (refine tr_skip ?_; try simp only [ex_seq, ex_block])
                                  | (refine tr_label ?_; try simp only [ex_seq, ex_block])
                                  | (refine tr_exit ?_; try simp only [ex_seq_exit, ex_block_exit, Nat.reduceEqDiff, if_true, if_false, ex_seq, ex_block, reduceCtorEq, ↓reduceIte])
                                  | (refine tr_ret ?_; try simp only [ex_seq_ret, ex_block_ret]))
                              refine tr_cond rfl (fun ht => ?_) (fun hf => ?_)
                              · cases ht
                              · repeat (first
                                    | refine tr_seq_k fun _ _ => ?_
                                    | (refine tr_region ?_; simp only [go_sem, List.getElem?_toArray, str_beq, reduceCtorEq, Nat.reduceEqDiff, Nat.reduceLT, Nat.reduceLeDiff, Nat.reduceAdd, Nat.reduceMul, Nat.reduceSub, Nat.reduceBEq, ↓reduceIte, bne_self_eq_false, Bool.and_false, Bool.false_and, Bool.true_or, Bool.false_or])
                                    | (refine tr_drawM (id := 19) follows [0, 1, 3, 7, 7, 31, 63, 127, 255, 255, 1023, 255, 255, 6399, 16383, 32767, 65535, 131071, 262143, 524287, 1048575, 2097151, 2097151, 8388607, 16777215] (by kernel_rfl) ?_; (try (rw [List.append_eq]; simp only [List.cons_append, List.nil_append])); simp (maxSteps := 4000000) only [go_sem, List.getElem?_toArray, str_beq, reduceCtorEq, Nat.reduceEqDiff, Nat.reduceLT, Nat.reduceLeDiff, Nat.reduceAdd, Nat.reduceMul, Nat.reduceSub, Nat.reduceBEq, ↓reduceIte, bne_self_eq_false, Bool.and_false, Bool.false_and, Bool.true_or, Bool.false_or])
                                    | (refine tr_drawM (id := 35) follows [0, 0, 0, 6, 14, 30, 63, 0, 0, 0, 768, 1792, 3840, 8064, 16383, 32767, 65535, 65535, 65535, 458751, 983039, 2031615, 4194303, 8388607, 16777215, 33554431, 67108863, 134217727, 268435455, 536870911, 536870911, 1610612735, 4294967295, 8589934591, 17179869183, 536870911, 536870911, 103616086015, 241055039487, 515932946431, 1099511627775, 2199023255551, 4398046511103] (by kernel_rfl) ?_; (try (rw [List.append_eq]; simp only [List.cons_append, List.nil_append])); simp (maxSteps := 4000000) only [go_sem, List.getElem?_toArray, str_beq, reduceCtorEq, Nat.reduceEqDiff, Nat.reduceLT, Nat.reduceLeDiff, Nat.reduceAdd, Nat.reduceMul, Nat.reduceSub, Nat.reduceBEq, ↓reduceIte, bne_self_eq_false, Bool.and_false, Bool.false_and, Bool.true_or, Bool.false_or])
                                    | refine k_of (by assumption) ?_
                                    | refine tr_block ?_
                                    | refine tr_scope ?_
                                    | (refine tr_skip ?_; try simp only [ex_seq, ex_block])
                                    | (refine tr_label ?_; try simp only [ex_seq, ex_block])
                                    | (refine tr_exit ?_; try simp only [ex_seq_exit, ex_block_exit, Nat.reduceEqDiff, if_true, if_false, ex_seq, ex_block, reduceCtorEq, ↓reduceIte])
                                    | (refine tr_ret ?_; try simp only [ex_seq_ret, ex_block_ret]))
                                refine tr_cond rfl (fun ht => ?_) (fun hf => ?_)
                                · cases ht
                                · repeat (first
                                      | refine tr_seq_k fun _ _ => ?_
                                      | (refine tr_region ?_; simp only [go_sem, List.getElem?_toArray, str_beq, reduceCtorEq, Nat.reduceEqDiff, Nat.reduceLT, Nat.reduceLeDiff, Nat.reduceAdd, Nat.reduceMul, Nat.reduceSub, Nat.reduceBEq, ↓reduceIte, bne_self_eq_false, Bool.and_false, Bool.false_and, Bool.true_or, Bool.false_or, ws])
                                      | (refine tr_drawM (id := 19) follows [0, 1, 3, 7, 7, 31, 63, 127, 255, 255, 1023, 255, 255, 6399, 16383, 32767, 65535, 131071, 262143, 524287, 1048575, 2097151, 2097151, 8388607, 16777215] (by kernel_rfl) ?_; (try (rw [List.append_eq]; simp only [List.cons_append, List.nil_append])); simp (maxSteps := 4000000) only [go_sem, List.getElem?_toArray, str_beq, reduceCtorEq, Nat.reduceEqDiff, Nat.reduceLT, Nat.reduceLeDiff, Nat.reduceAdd, Nat.reduceMul, Nat.reduceSub, Nat.reduceBEq, ↓reduceIte, bne_self_eq_false, Bool.and_false, Bool.false_and, Bool.true_or, Bool.false_or, ws])
                                      | (refine tr_drawM (id := 35) follows [0, 0, 0, 6, 14, 30, 63, 0, 0, 0, 768, 1792, 3840, 8064, 16383, 32767, 65535, 65535, 65535, 458751, 983039, 2031615, 4194303, 8388607, 16777215, 33554431, 67108863, 134217727, 268435455, 536870911, 536870911, 1610612735, 4294967295, 8589934591, 17179869183, 536870911, 536870911, 103616086015, 241055039487, 515932946431, 1099511627775, 2199023255551, 4398046511103] (by kernel_rfl) ?_; (try (rw [List.append_eq]; simp only [List.cons_append, List.nil_append])); simp (maxSteps := 4000000) only [go_sem, List.getElem?_toArray, str_beq, reduceCtorEq, Nat.reduceEqDiff, Nat.reduceLT, Nat.reduceLeDiff, Nat.reduceAdd, Nat.reduceMul, Nat.reduceSub, Nat.reduceBEq, ↓reduceIte, bne_self_eq_false, Bool.and_false, Bool.false_and, Bool.true_or, Bool.false_or, ws])
                                      | refine k_of (by assumption) ?_
                                      | refine tr_block ?_
                                      | refine tr_scope ?_
                                      | (refine tr_skip ?_; try simp only [ex_seq, ex_block])
                                      | (refine tr_label ?_; try simp only [ex_seq, ex_block])
                                      | (refine tr_exit ?_; try simp only [ex_seq_exit, ex_block_exit, Nat.reduceEqDiff, if_true, if_false, ex_seq, ex_block, reduceCtorEq, ↓reduceIte])
                                      | (refine tr_ret ?_; try simp only [ex_seq_ret, ex_block_ret]))
                                  exact hK (mM, SM, EM, NM, mxM, i + 1) _ _ ⟨lm.up (by dsimp only; omega) (Nat.le_refl _), hlt, hLM, hwM⟩ ⟨⟨rfl, rfl, rfl, rfl, rfl, rfl, trivial⟩, Keep.refl _, lowL lm.tab.lt lm.bt, lm.wf, hLM, by dsimp only; rw [hwM]; exact Nat.le_refl _⟩ (by dsimp only; omega)
                            | some k =>
                              rw [hfs] at cF hdI
                              have cF : GivesW Try.prog 15 [.ptr bt 0, sA s2] mM (.tup [iA (k : Nat), bA true]) mM := cF
                              have hdI : decide ((0 : Int) < ((getL NM s2 : Nat) : Int)) = true := hdI
                              have hg0 := of_decide_eq_true hdI
                              have b0 := bin_neBo true
                              obtain ⟨m3, S3, c3, t3, k3⟩ := drop_tab lm.tab lm.wf (k : Int) (by have := lm.fine.len; omega) (fun e he => by have := lm.fine.use e he; omega)
                              obtain ⟨e3, cn3, ln3⟩ := lm.cn.drop hfs
                              rw [e3] at c3
                              have f3 := lm.fine.drop (k : Int)
                              have hc3 := k3.old bm _ lm.out lm.cnt
                              have lk5 := look_cnt hc3 s2
                              have pk5 := put_cnt hc3 s2 (getL NM s2 - 1)
                              have hgl := lm.gl s2
                              have wg5 : IntKind.i64.wrap (((getL NM s2 : Nat) : Int) - 1) = ((getL NM s2 - 1 : Nat) : Int) := by rw [wrap_in (by omega)]; omega
                              have hb3 : bm < m3.hp.length := (List.getElem?_eq_some_iff.1 hc3).1
                              have hout3 : bm ∉ S3 := fun h => by
                                rcases k3.new _ h with h | h
                                · exact lm.out h
                                · have := lm.bt; omega
                              obtain ⟨m4, hm4⟩ : ∃ m4, m4 = setB m3 bm ⟨false, [.ent (nmI (putL NM s2 (getL NM s2 - 1)))]⟩ := ⟨_, rfl⟩
                              obtain ⟨t4, w4⟩ := TabM.setCnt t3 k3.wf hout3 (blk := ⟨false, [.ent (nmI (putL NM s2 (getL NM s2 - 1)))]⟩) rfl hb3
                              have hc4 : (setB m3 bm ⟨false, [.ent (nmI (putL NM s2 (getL NM s2 - 1)))]⟩).hp[bm]? = some ⟨false, [.ent (nmI (putL NM s2 (getL NM s2 - 1)))]⟩ := setB_self hb3 _
                              rw [← hm4] at t4 w4 hc4 pk5
                              have hl4 : m4.hp.length = m3.hp.length := by rw [hm4]; exact setB_len _ _ _
                              have hw4 : m4.hw = m3.hw := by rw [hm4]; rfl
                              clear hm4
                              have l4 : Lt T bt bm m4 S3 (dropS EM (k : Int)).2 (putL NM s2 (getL NM s2 - 1)) mxM (2 * (i + 1)) (i + 1) := ⟨t4, w4, hc4, hout3, f3.mono (by omega), cn3, by rw [ln3]; exact lm.len, lm.mx, fun s hs => by
                                rcases (keys_put _ _ _ s).1 hs with rfl | h
                                · exact hs2T
                                · exact lm.keys s h, nd_put lm.nd _ _⟩
                              generalize (dropS EM (k : Int)).2 = E4 at *
                              have hL4 : m0.hp.length ≤ m4.hp.length := by rw [hl4]; exact Nat.le_trans hLM k3.len
                              have hw40 : m4.hw = m0.hw := hw4.trans (k3.hw.trans hwM)
                              repeat (first
                                  | refine tr_seq_k fun _ _ => ?_
                                  | (refine tr_region ?_; simp only [go_sem, List.getElem?_toArray, str_beq, reduceCtorEq, Nat.reduceEqDiff, Nat.reduceLT, Nat.reduceLeDiff, Nat.reduceAdd, Nat.reduceMul, Nat.reduceSub, Nat.reduceBEq, ↓reduceIte, bne_self_eq_false, Bool.and_false, Bool.false_and, Bool.true_or, Bool.false_or, ij, ip, ws, lk4, hdI, b0])
                                  | (refine tr_drawM (id := 19) follows [0, 1, 3, 7, 7, 31, 63, 127, 255, 255, 1023, 255, 255, 6399, 16383, 32767, 65535, 131071, 262143, 524287, 1048575, 2097151, 2097151, 8388607, 16777215] (by kernel_rfl) ?_; (try (rw [List.append_eq]; simp only [List.cons_append, List.nil_append])); simp (maxSteps := 4000000) only [go_sem, List.getElem?_toArray, str_beq, reduceCtorEq, Nat.reduceEqDiff, Nat.reduceLT, Nat.reduceLeDiff, Nat.reduceAdd, Nat.reduceMul, Nat.reduceSub, Nat.reduceBEq, ↓reduceIte, bne_self_eq_false, Bool.and_false, Bool.false_and, Bool.true_or, Bool.false_or, ij, ip, ws, lk4, hdI, b0])
                                  | (refine tr_drawM (id := 35) follows [0, 0, 0, 6, 14, 30, 63, 0, 0, 0, 768, 1792, 3840, 8064, 16383, 32767, 65535, 65535, 65535, 458751, 983039, 2031615, 4194303, 8388607, 16777215, 33554431, 67108863, 134217727, 268435455, 536870911, 536870911, 1610612735, 4294967295, 8589934591, 17179869183, 536870911, 536870911, 103616086015, 241055039487, 515932946431, 1099511627775, 2199023255551, 4398046511103] (by kernel_rfl) ?_; (try (rw [List.append_eq]; simp only [List.cons_append, List.nil_append])); simp (maxSteps := 4000000) only [go_sem, List.getElem?_toArray, str_beq, reduceCtorEq, Nat.reduceEqDiff, Nat.reduceLT, Nat.reduceLeDiff, Nat.reduceAdd, Nat.reduceMul, Nat.reduceSub, Nat.reduceBEq, ↓reduceIte, bne_self_eq_false, Bool.and_false, Bool.false_and, Bool.true_or, Bool.false_or, ij, ip, ws, lk4, hdI, b0])
                                  | (refine call_of (cP) ?_ ?_
                                     · first | rfl | simp only [go_sem, List.getElem?_toArray, str_beq, reduceCtorEq, Nat.reduceEqDiff, Nat.reduceLT, Nat.reduceLeDiff, Nat.reduceAdd, Nat.reduceMul, Nat.reduceSub, Nat.reduceBEq, ↓reduceIte, bne_self_eq_false, Bool.and_false, Bool.false_and, Bool.true_or, Bool.false_or, ij, ip, ws, lk4, hdI, b0, shut_col]
                                     simp only [go_sem, List.getElem?_toArray, str_beq, reduceCtorEq, Nat.reduceEqDiff, Nat.reduceLT, Nat.reduceLeDiff, Nat.reduceAdd, Nat.reduceMul, Nat.reduceSub, Nat.reduceBEq, ↓reduceIte, bne_self_eq_false, Bool.and_false, Bool.false_and, Bool.true_or, Bool.false_or, ij, ip, ws, lk4, hdI, b0])
                                  | (refine call_givesW (cF) ?_; (try dsimp only); (try simp only [go_sem, List.getElem?_toArray, str_beq, reduceCtorEq, Nat.reduceEqDiff, Nat.reduceLT, Nat.reduceLeDiff, Nat.reduceAdd, Nat.reduceMul, Nat.reduceSub, Nat.reduceBEq, ↓reduceIte, bne_self_eq_false, Bool.and_false, Bool.false_and, Bool.true_or, Bool.false_or, ij, ip, ws, lk4, hdI, b0]))
                                  | refine k_of (by assumption) ?_
                                  | refine tr_block ?_
                                  | refine tr_scope ?_
                                  | (refine tr_skip ?_; try simp only [ex_seq, ex_block])
                                  | (refine tr_label ?_; try simp only [ex_seq, ex_block])
                                  | (refine tr_exit ?_; try simp only [ex_seq_exit, ex_block_exit, Nat.reduceEqDiff, if_true, if_false, ex_seq, ex_block, reduceCtorEq, ↓reduceIte])
                                  | (refine tr_ret ?_; try simp only [ex_seq_ret, ex_block_ret]))
                              refine tr_cond rfl (fun ht => ?_) (fun hf => ?_)
                              · cases ht
                              · repeat (first
                                    | refine tr_seq_k fun _ _ => ?_
                                    | (refine tr_region ?_; simp only [go_sem, List.getElem?_toArray, str_beq, reduceCtorEq, Nat.reduceEqDiff, Nat.reduceLT, Nat.reduceLeDiff, Nat.reduceAdd, Nat.reduceMul, Nat.reduceSub, Nat.reduceBEq, ↓reduceIte, bne_self_eq_false, Bool.and_false, Bool.false_and, Bool.true_or, Bool.false_or])
                                    | (refine tr_drawM (id := 19) follows [0, 1, 3, 7, 7, 31, 63, 127, 255, 255, 1023, 255, 255, 6399, 16383, 32767, 65535, 131071, 262143, 524287, 1048575, 2097151, 2097151, 8388607, 16777215] (by kernel_rfl) ?_; (try (rw [List.append_eq]; simp only [List.cons_append, List.nil_append])); simp (maxSteps := 4000000) only [go_sem, List.getElem?_toArray, str_beq, reduceCtorEq, Nat.reduceEqDiff, Nat.reduceLT, Nat.reduceLeDiff, Nat.reduceAdd, Nat.reduceMul, Nat.reduceSub, Nat.reduceBEq, ↓reduceIte, bne_self_eq_false, Bool.and_false, Bool.false_and, Bool.true_or, Bool.false_or])
                                    | (refine tr_drawM (id := 35) follows [0, 0, 0, 6, 14, 30, 63, 0, 0, 0, 768, 1792, 3840, 8064, 16383, 32767, 65535, 65535, 65535, 458751, 983039, 2031615, 4194303, 8388607, 16777215, 33554431, 67108863, 134217727, 268435455, 536870911, 536870911, 1610612735, 4294967295, 8589934591, 17179869183, 536870911, 536870911, 103616086015, 241055039487, 515932946431, 1099511627775, 2199023255551, 4398046511103] (by kernel_rfl) ?_; (try (rw [List.append_eq]; simp only [List.cons_append, List.nil_append])); simp (maxSteps := 4000000) only [go_sem, List.getElem?_toArray, str_beq, reduceCtorEq, Nat.reduceEqDiff, Nat.reduceLT, Nat.reduceLeDiff, Nat.reduceAdd, Nat.reduceMul, Nat.reduceSub, Nat.reduceBEq, ↓reduceIte, bne_self_eq_false, Bool.and_false, Bool.false_and, Bool.true_or, Bool.false_or])
                                    | refine k_of (by assumption) ?_
                                    | refine tr_block ?_
                                    | refine tr_scope ?_
                                    | (refine tr_skip ?_; try simp only [ex_seq, ex_block])
                                    | (refine tr_label ?_; try simp only [ex_seq, ex_block])
                                    | (refine tr_exit ?_; try simp only [ex_seq_exit, ex_block_exit, Nat.reduceEqDiff, if_true, if_false, ex_seq, ex_block, reduceCtorEq, ↓reduceIte])
                                    | (refine tr_ret ?_; try simp only [ex_seq_ret, ex_block_ret]))
                                refine tr_cond rfl (fun ht => ?_) (fun hf => ?_)
                                · repeat (first
                                      | refine tr_seq_k fun _ _ => ?_
                                      | (refine tr_region ?_; simp only [go_sem, List.getElem?_toArray, str_beq, reduceCtorEq, Nat.reduceEqDiff, Nat.reduceLT, Nat.reduceLeDiff, Nat.reduceAdd, Nat.reduceMul, Nat.reduceSub, Nat.reduceBEq, ↓reduceIte, bne_self_eq_false, Bool.and_false, Bool.false_and, Bool.true_or, Bool.false_or])
                                      | (refine tr_drawM (id := 19) follows [0, 1, 3, 7, 7, 31, 63, 127, 255, 255, 1023, 255, 255, 6399, 16383, 32767, 65535, 131071, 262143, 524287, 1048575, 2097151, 2097151, 8388607, 16777215] (by kernel_rfl) ?_; (try (rw [List.append_eq]; simp only [List.cons_append, List.nil_append])); simp (maxSteps := 4000000) only [go_sem, List.getElem?_toArray, str_beq, reduceCtorEq, Nat.reduceEqDiff, Nat.reduceLT, Nat.reduceLeDiff, Nat.reduceAdd, Nat.reduceMul, Nat.reduceSub, Nat.reduceBEq, ↓reduceIte, bne_self_eq_false, Bool.and_false, Bool.false_and, Bool.true_or, Bool.false_or])
                                      | (refine tr_drawM (id := 35) follows [0, 0, 0, 6, 14, 30, 63, 0, 0, 0, 768, 1792, 3840, 8064, 16383, 32767, 65535, 65535, 65535, 458751, 983039, 2031615, 4194303, 8388607, 16777215, 33554431, 67108863, 134217727, 268435455, 536870911, 536870911, 1610612735, 4294967295, 8589934591, 17179869183, 536870911, 536870911, 103616086015, 241055039487, 515932946431, 1099511627775, 2199023255551, 4398046511103] (by kernel_rfl) ?_; (try (rw [List.append_eq]; simp only [List.cons_append, List.nil_append])); simp (maxSteps := 4000000) only [go_sem, List.getElem?_toArray, str_beq, reduceCtorEq, Nat.reduceEqDiff, Nat.reduceLT, Nat.reduceLeDiff, Nat.reduceAdd, Nat.reduceMul, Nat.reduceSub, Nat.reduceBEq, ↓reduceIte, bne_self_eq_false, Bool.and_false, Bool.false_and, Bool.true_or, Bool.false_or])
                                      | (refine call_givesW (c3) ?_; (try dsimp only); (try simp only [go_sem, List.getElem?_toArray, str_beq, reduceCtorEq, Nat.reduceEqDiff, Nat.reduceLT, Nat.reduceLeDiff, Nat.reduceAdd, Nat.reduceMul, Nat.reduceSub, Nat.reduceBEq, ↓reduceIte, bne_self_eq_false, Bool.and_false, Bool.false_and, Bool.true_or, Bool.false_or]))
                                      | refine k_of (by assumption) ?_
                                      | refine tr_block ?_
                                      | refine tr_scope ?_
                                      | (refine tr_skip ?_; try simp only [ex_seq, ex_block])
                                      | (refine tr_label ?_; try simp only [ex_seq, ex_block])
                                      | (refine tr_exit ?_; try simp only [ex_seq_exit, ex_block_exit, Nat.reduceEqDiff, if_true, if_false, ex_seq, ex_block, reduceCtorEq, ↓reduceIte])
                                      | (refine tr_ret ?_; try simp only [ex_seq_ret, ex_block_ret]))
                                  refine tr_cond rfl (fun ht => ?_) (fun hf => ?_)
                                  · cases ht
                                  · repeat (first
                                        | refine tr_seq_k fun _ _ => ?_
                                        | (refine tr_region ?_; simp only [go_sem, List.getElem?_toArray, str_beq, reduceCtorEq, Nat.reduceEqDiff, Nat.reduceLT, Nat.reduceLeDiff, Nat.reduceAdd, Nat.reduceMul, Nat.reduceSub, Nat.reduceBEq, ↓reduceIte, bne_self_eq_false, Bool.and_false, Bool.false_and, Bool.true_or, Bool.false_or, lk5, wg5, pk5, ws])
                                        | (refine tr_drawM (id := 19) follows [0, 1, 3, 7, 7, 31, 63, 127, 255, 255, 1023, 255, 255, 6399, 16383, 32767, 65535, 131071, 262143, 524287, 1048575, 2097151, 2097151, 8388607, 16777215] (by kernel_rfl) ?_; (try (rw [List.append_eq]; simp only [List.cons_append, List.nil_append])); simp (maxSteps := 4000000) only [go_sem, List.getElem?_toArray, str_beq, reduceCtorEq, Nat.reduceEqDiff, Nat.reduceLT, Nat.reduceLeDiff, Nat.reduceAdd, Nat.reduceMul, Nat.reduceSub, Nat.reduceBEq, ↓reduceIte, bne_self_eq_false, Bool.and_false, Bool.false_and, Bool.true_or, Bool.false_or, lk5, wg5, pk5, ws])
                                        | (refine tr_drawM (id := 35) follows [0, 0, 0, 6, 14, 30, 63, 0, 0, 0, 768, 1792, 3840, 8064, 16383, 32767, 65535, 65535, 65535, 458751, 983039, 2031615, 4194303, 8388607, 16777215, 33554431, 67108863, 134217727, 268435455, 536870911, 536870911, 1610612735, 4294967295, 8589934591, 17179869183, 536870911, 536870911, 103616086015, 241055039487, 515932946431, 1099511627775, 2199023255551, 4398046511103] (by kernel_rfl) ?_; (try (rw [List.append_eq]; simp only [List.cons_append, List.nil_append])); simp (maxSteps := 4000000) only [go_sem, List.getElem?_toArray, str_beq, reduceCtorEq, Nat.reduceEqDiff, Nat.reduceLT, Nat.reduceLeDiff, Nat.reduceAdd, Nat.reduceMul, Nat.reduceSub, Nat.reduceBEq, ↓reduceIte, bne_self_eq_false, Bool.and_false, Bool.false_and, Bool.true_or, Bool.false_or, lk5, wg5, pk5, ws])
                                        | refine k_of (by assumption) ?_
                                        | refine tr_block ?_
                                        | refine tr_scope ?_
                                        | (refine tr_skip ?_; try simp only [ex_seq, ex_block])
                                        | (refine tr_label ?_; try simp only [ex_seq, ex_block])
                                        | (refine tr_exit ?_; try simp only [ex_seq_exit, ex_block_exit, Nat.reduceEqDiff, if_true, if_false, ex_seq, ex_block, reduceCtorEq, ↓reduceIte])
                                        | (refine tr_ret ?_; try simp only [ex_seq_ret, ex_block_ret]))
                                    exact hK (m4, S3, E4, putL NM s2 (getL NM s2 - 1), mxM, i + 1) _ _ ⟨l4, hlt, hL4, hw40⟩ ⟨⟨rfl, rfl, rfl, rfl, rfl, rfl, trivial⟩, Keep.refl _, lowL l4.tab.lt l4.bt, l4.wf, hL4, by dsimp only; rw [hw40]; exact Nat.le_refl _⟩ (by dsimp only; omega)
                                · cases hf
                  · cases hf
              · cases hf
          · have hiT : i = T.length := by omega
            have d1 : decide ((i : Int) < (T.length : Nat)) = false := decide_eq_false (by omega)
            have hE60 : E.length ≤ 60 := by have := lt.len; have := lt.mx; omega
            have hgl : ∀ s, getL N s ≤ 120 := fun s => by have := lt.gl s; omega
            have cE : GivesW Try.prog 24 [.ptr bt 0, iA 100] m (.tup [slR exC (decide (exL E = [])) (exL E), bA true]) m := entries_gives lt.tab (by omega) (fun e he => Nat.le_trans (lt.fine.size e he) (by decide)) (most := 100) (by have := exL_le E; rw [exL_len] at this; omega) (by decide)
            have hxl := exL_le E
            have hsum := lt.cn.sum
            have hTot : totL N ≤ 7200 := by
              have h1 := sumX_le N 120 hgl (exL E)
              rw [hsum] at h1
              have : (exL E).length * 120 ≤ 60 * 120 := Nat.mul_le_mul_right _ (by omega)
              omega
            generalize hex3 : decide (exL E = []) = ex3 at cE
            have hlen0 := liveN_eq E
            rw [← exL_len] at hlen0
            have hat : ∀ (k : Nat) (hk : k < (exL E).length), 0 < getL N ((exL E)[k]).2 ∧ usesS E (((exL E)[k]).1 : Int) = getL N ((exL E)[k]).2 := fun k hk => by
              obtain ⟨u, h1, h2⟩ := exL_at hk
              obtain ⟨h3, h4⟩ := lt.cn.up _ _ _ h1 h2
              exact ⟨by omega, by rw [(at_has h1 h2).2.2, h4]⟩
            have hsl : ∀ k, sumX N ((exL E).take k) ≤ 7200 := fun k => by
              have h1 := sumX_le N 120 hgl ((exL E).take k)
              have h2 : ((exL E).take k).length ≤ 60 := by rw [List.length_take]; omega
              have : ((exL E).take k).length * 120 ≤ 60 * 120 := Nat.mul_le_mul_right _ h2
              omega
            clear hex3
            repeat (first
                | refine tr_seq_k fun _ _ => ?_
                | (refine tr_region ?_; simp only [go_sem, List.getElem?_toArray, str_beq, reduceCtorEq, Nat.reduceEqDiff, Nat.reduceLT, Nat.reduceLeDiff, Nat.reduceAdd, Nat.reduceMul, Nat.reduceSub, Nat.reduceBEq, ↓reduceIte, bne_self_eq_false, Bool.and_false, Bool.false_and, Bool.true_or, Bool.false_or, d1])
                | (refine tr_drawM (id := 19) follows [0, 1, 3, 7, 7, 31, 63, 127, 255, 255, 1023, 255, 255, 6399, 16383, 32767, 65535, 131071, 262143, 524287, 1048575, 2097151, 2097151, 8388607, 16777215] (by kernel_rfl) ?_; (try (rw [List.append_eq]; simp only [List.cons_append, List.nil_append])); simp (maxSteps := 4000000) only [go_sem, List.getElem?_toArray, str_beq, reduceCtorEq, Nat.reduceEqDiff, Nat.reduceLT, Nat.reduceLeDiff, Nat.reduceAdd, Nat.reduceMul, Nat.reduceSub, Nat.reduceBEq, ↓reduceIte, bne_self_eq_false, Bool.and_false, Bool.false_and, Bool.true_or, Bool.false_or, d1])
                | (refine tr_drawM (id := 35) follows [0, 0, 0, 6, 14, 30, 63, 0, 0, 0, 768, 1792, 3840, 8064, 16383, 32767, 65535, 65535, 65535, 458751, 983039, 2031615, 4194303, 8388607, 16777215, 33554431, 67108863, 134217727, 268435455, 536870911, 536870911, 1610612735, 4294967295, 8589934591, 17179869183, 536870911, 536870911, 103616086015, 241055039487, 515932946431, 1099511627775, 2199023255551, 4398046511103] (by kernel_rfl) ?_; (try (rw [List.append_eq]; simp only [List.cons_append, List.nil_append])); simp (maxSteps := 4000000) only [go_sem, List.getElem?_toArray, str_beq, reduceCtorEq, Nat.reduceEqDiff, Nat.reduceLT, Nat.reduceLeDiff, Nat.reduceAdd, Nat.reduceMul, Nat.reduceSub, Nat.reduceBEq, ↓reduceIte, bne_self_eq_false, Bool.and_false, Bool.false_and, Bool.true_or, Bool.false_or, d1])
                | refine k_of (by assumption) ?_
                | refine tr_block ?_
                | refine tr_scope ?_
                | (refine tr_skip ?_; try simp only [ex_seq, ex_block])
                | (refine tr_label ?_; try simp only [ex_seq, ex_block])
                | (refine tr_exit ?_; try simp only [ex_seq_exit, ex_block_exit, Nat.reduceEqDiff, if_true, if_false, ex_seq, ex_block, reduceCtorEq, ↓reduceIte])
                | (refine tr_ret ?_; try simp only [ex_seq_ret, ex_block_ret]))
            refine tr_cond rfl (fun ht => ?_) (fun hf => ?_)
            · cases ht
            · repeat (first
                  | refine tr_seq_k fun _ _ => ?_
                  | (refine tr_region ?_; simp only [go_sem, List.getElem?_toArray, str_beq, reduceCtorEq, Nat.reduceEqDiff, Nat.reduceLT, Nat.reduceLeDiff, Nat.reduceAdd, Nat.reduceMul, Nat.reduceSub, Nat.reduceBEq, ↓reduceIte, bne_self_eq_false, Bool.and_false, Bool.false_and, Bool.true_or, Bool.false_or])
                  | (refine tr_drawM (id := 19) follows [0, 1, 3, 7, 7, 31, 63, 127, 255, 255, 1023, 255, 255, 6399, 16383, 32767, 65535, 131071, 262143, 524287, 1048575, 2097151, 2097151, 8388607, 16777215] (by kernel_rfl) ?_; (try (rw [List.append_eq]; simp only [List.cons_append, List.nil_append])); simp (maxSteps := 4000000) only [go_sem, List.getElem?_toArray, str_beq, reduceCtorEq, Nat.reduceEqDiff, Nat.reduceLT, Nat.reduceLeDiff, Nat.reduceAdd, Nat.reduceMul, Nat.reduceSub, Nat.reduceBEq, ↓reduceIte, bne_self_eq_false, Bool.and_false, Bool.false_and, Bool.true_or, Bool.false_or])
                  | (refine tr_drawM (id := 35) follows [0, 0, 0, 6, 14, 30, 63, 0, 0, 0, 768, 1792, 3840, 8064, 16383, 32767, 65535, 65535, 65535, 458751, 983039, 2031615, 4194303, 8388607, 16777215, 33554431, 67108863, 134217727, 268435455, 536870911, 536870911, 1610612735, 4294967295, 8589934591, 17179869183, 536870911, 536870911, 103616086015, 241055039487, 515932946431, 1099511627775, 2199023255551, 4398046511103] (by kernel_rfl) ?_; (try (rw [List.append_eq]; simp only [List.cons_append, List.nil_append])); simp (maxSteps := 4000000) only [go_sem, List.getElem?_toArray, str_beq, reduceCtorEq, Nat.reduceEqDiff, Nat.reduceLT, Nat.reduceLeDiff, Nat.reduceAdd, Nat.reduceMul, Nat.reduceSub, Nat.reduceBEq, ↓reduceIte, bne_self_eq_false, Bool.and_false, Bool.false_and, Bool.true_or, Bool.false_or])
                  | (refine call_givesW (cE) ?_; (try dsimp only); (try simp only [go_sem, List.getElem?_toArray, str_beq, reduceCtorEq, Nat.reduceEqDiff, Nat.reduceLT, Nat.reduceLeDiff, Nat.reduceAdd, Nat.reduceMul, Nat.reduceSub, Nat.reduceBEq, ↓reduceIte, bne_self_eq_false, Bool.and_false, Bool.false_and, Bool.true_or, Bool.false_or]))
                  | refine k_of (by assumption) ?_
                  | refine tr_block ?_
                  | refine tr_scope ?_
                  | (refine tr_skip ?_; try simp only [ex_seq, ex_block])
                  | (refine tr_label ?_; try simp only [ex_seq, ex_block])
                  | (refine tr_exit ?_; try simp only [ex_seq_exit, ex_block_exit, Nat.reduceEqDiff, if_true, if_false, ex_seq, ex_block, reduceCtorEq, ↓reduceIte])
                  | (refine tr_ret ?_; try simp only [ex_seq_ret, ex_block_ret]))
              have hbt := lt.tab.lt
              have hbm := lt.bt
              refine tr_loop_k (σ := Nat) (fun j => [(0, slR stC ex T), (5, .ptr bt 0), (6, .mapp bm), (15, iA (sumX N ((exL E).take j) : Nat)), (16, slR exC ex3 (exL E)), (17, bA true), (18, iA j)]) (fun j => m)
                (fun j => j ≤ (exL E).length) (fun j => (exL E).length - j) 0 (Nat.zero_le _) ⟨rfl, rfl, rfl, rfl, rfl, rfl, rfl, trivial⟩ rfl ?_
              rintro j hj K2 hK2
              have low2 : ∀ (x y : Int), lowF m.hp.length m.hw.length [(0, slR stC ex T), (5, .ptr bt 0), (6, .mapp bm), (15, iA x), (16, slR exC ex3 (exL E)), (17, bA true), (18, iA y)] = true := fun x y => by
                simp only [lowF, slR, low, Bool.and_true, Bool.true_and, Nat.blt_eq, Bool.and_eq_true]
                exact ⟨hbt, hbm⟩
              by_cases hjl : j < (exL E).length
              · have e1 : decide ((j : Int) < ((exL E).length : Nat)) = true := decide_eq_true (by omega)
                have xj := idxX (ex := ex3) hjl
                obtain ⟨p1, p2⟩ := hat j hjl
                have cU := uses_tab lt.tab (((exL E)[j]).1 : Int)
                rw [p2] at cU
                have lk := look_cnt lt.cnt ((exL E)[j]).2
                have g1 : decide (((getL N ((exL E)[j]).2 : Nat) : Int) < 1) = false := decide_eq_false (by omega)
                have hs1 := sumX_take (N := N) hjl
                have hs2 := hsl j
                have hg2 := hgl ((exL E)[j]).2
                have wa : IntKind.i64.wrap (((sumX N ((exL E).take j) : Nat) : Int) + ((getL N ((exL E)[j]).2 : Nat) : Int)) = ((sumX N ((exL E).take j) + getL N ((exL E)[j]).2 : Nat) : Int) := by rw [wrap_in (by omega)]; rfl
                have ws := wrap_succ (show j ≤ 1000000000 by omega)
                have back := hK2 (j + 1)
                rw [hs1] at back
                generalize getL N ((exL E)[j]).2 = g at *
                generalize sumX N ((exL E).take j) = sm at *
                cases hj0 : decide ((j : Int) > 0) with
                | false =>
                  have hj00 : j = 0 := by have := of_decide_eq_false hj0; omega
                  repeat (first
                      | refine tr_seq_k fun _ _ => ?_
                      | (refine tr_region ?_; simp only [go_sem, List.getElem?_toArray, str_beq, reduceCtorEq, Nat.reduceEqDiff, Nat.reduceLT, Nat.reduceLeDiff, Nat.reduceAdd, Nat.reduceMul, Nat.reduceSub, Nat.reduceBEq, ↓reduceIte, bne_self_eq_false, Bool.and_false, Bool.false_and, Bool.true_or, Bool.false_or, e1])
                      | (refine tr_drawM (id := 19) follows [0, 1, 3, 7, 7, 31, 63, 127, 255, 255, 1023, 255, 255, 6399, 16383, 32767, 65535, 131071, 262143, 524287, 1048575, 2097151, 2097151, 8388607, 16777215] (by kernel_rfl) ?_; (try (rw [List.append_eq]; simp only [List.cons_append, List.nil_append])); simp (maxSteps := 4000000) only [go_sem, List.getElem?_toArray, str_beq, reduceCtorEq, Nat.reduceEqDiff, Nat.reduceLT, Nat.reduceLeDiff, Nat.reduceAdd, Nat.reduceMul, Nat.reduceSub, Nat.reduceBEq, ↓reduceIte, bne_self_eq_false, Bool.and_false, Bool.false_and, Bool.true_or, Bool.false_or, e1])
                      | (refine tr_drawM (id := 35) follows [0, 0, 0, 6, 14, 30, 63, 0, 0, 0, 768, 1792, 3840, 8064, 16383, 32767, 65535, 65535, 65535, 458751, 983039, 2031615, 4194303, 8388607, 16777215, 33554431, 67108863, 134217727, 268435455, 536870911, 536870911, 1610612735, 4294967295, 8589934591, 17179869183, 536870911, 536870911, 103616086015, 241055039487, 515932946431, 1099511627775, 2199023255551, 4398046511103] (by kernel_rfl) ?_; (try (rw [List.append_eq]; simp only [List.cons_append, List.nil_append])); simp (maxSteps := 4000000) only [go_sem, List.getElem?_toArray, str_beq, reduceCtorEq, Nat.reduceEqDiff, Nat.reduceLT, Nat.reduceLeDiff, Nat.reduceAdd, Nat.reduceMul, Nat.reduceSub, Nat.reduceBEq, ↓reduceIte, bne_self_eq_false, Bool.and_false, Bool.false_and, Bool.true_or, Bool.false_or, e1])
                      | refine k_of (by assumption) ?_
                      | refine tr_block ?_
                      | refine tr_scope ?_
                      | (refine tr_skip ?_; try simp only [ex_seq, ex_block])
                      | (refine tr_label ?_; try simp only [ex_seq, ex_block])
                      | (refine tr_exit ?_; try simp only [ex_seq_exit, ex_block_exit, Nat.reduceEqDiff, if_true, if_false, ex_seq, ex_block, reduceCtorEq, ↓reduceIte])
                      | (refine tr_ret ?_; try simp only [ex_seq_ret, ex_block_ret]))
                  refine tr_cond rfl (fun ht => ?_) (fun hf => ?_)
                  · repeat (first
                        | refine tr_seq_k fun _ _ => ?_
                        | (refine tr_region ?_; simp only [go_sem, List.getElem?_toArray, str_beq, reduceCtorEq, Nat.reduceEqDiff, Nat.reduceLT, Nat.reduceLeDiff, Nat.reduceAdd, Nat.reduceMul, Nat.reduceSub, Nat.reduceBEq, ↓reduceIte, bne_self_eq_false, Bool.and_false, Bool.false_and, Bool.true_or, Bool.false_or, xj, lk, g1, hj0])
                        | (refine tr_drawM (id := 19) follows [0, 1, 3, 7, 7, 31, 63, 127, 255, 255, 1023, 255, 255, 6399, 16383, 32767, 65535, 131071, 262143, 524287, 1048575, 2097151, 2097151, 8388607, 16777215] (by kernel_rfl) ?_; (try (rw [List.append_eq]; simp only [List.cons_append, List.nil_append])); simp (maxSteps := 4000000) only [go_sem, List.getElem?_toArray, str_beq, reduceCtorEq, Nat.reduceEqDiff, Nat.reduceLT, Nat.reduceLeDiff, Nat.reduceAdd, Nat.reduceMul, Nat.reduceSub, Nat.reduceBEq, ↓reduceIte, bne_self_eq_false, Bool.and_false, Bool.false_and, Bool.true_or, Bool.false_or, xj, lk, g1, hj0])
                        | (refine tr_drawM (id := 35) follows [0, 0, 0, 6, 14, 30, 63, 0, 0, 0, 768, 1792, 3840, 8064, 16383, 32767, 65535, 65535, 65535, 458751, 983039, 2031615, 4194303, 8388607, 16777215, 33554431, 67108863, 134217727, 268435455, 536870911, 536870911, 1610612735, 4294967295, 8589934591, 17179869183, 536870911, 536870911, 103616086015, 241055039487, 515932946431, 1099511627775, 2199023255551, 4398046511103] (by kernel_rfl) ?_; (try (rw [List.append_eq]; simp only [List.cons_append, List.nil_append])); simp (maxSteps := 4000000) only [go_sem, List.getElem?_toArray, str_beq, reduceCtorEq, Nat.reduceEqDiff, Nat.reduceLT, Nat.reduceLeDiff, Nat.reduceAdd, Nat.reduceMul, Nat.reduceSub, Nat.reduceBEq, ↓reduceIte, bne_self_eq_false, Bool.and_false, Bool.false_and, Bool.true_or, Bool.false_or, xj, lk, g1, hj0])
                        | (refine call_givesW (cU) ?_; (try dsimp only); (try simp only [go_sem, List.getElem?_toArray, str_beq, reduceCtorEq, Nat.reduceEqDiff, Nat.reduceLT, Nat.reduceLeDiff, Nat.reduceAdd, Nat.reduceMul, Nat.reduceSub, Nat.reduceBEq, ↓reduceIte, bne_self_eq_false, Bool.and_false, Bool.false_and, Bool.true_or, Bool.false_or, xj, lk, g1, hj0]))
                        | refine k_of (by assumption) ?_
                        | refine tr_block ?_
                        | refine tr_scope ?_
                        | (refine tr_skip ?_; try simp only [ex_seq, ex_block])
                        | (refine tr_label ?_; try simp only [ex_seq, ex_block])
                        | (refine tr_exit ?_; try simp only [ex_seq_exit, ex_block_exit, Nat.reduceEqDiff, if_true, if_false, ex_seq, ex_block, reduceCtorEq, ↓reduceIte])
                        | (refine tr_ret ?_; try simp only [ex_seq_ret, ex_block_ret]))
                    refine tr_cond rfl (fun ht => ?_) (fun hf => ?_)
                    · cases ht
                    · repeat (first
                          | refine tr_seq_k fun _ _ => ?_
                          | (refine tr_region ?_; simp only [go_sem, List.getElem?_toArray, str_beq, reduceCtorEq, Nat.reduceEqDiff, Nat.reduceLT, Nat.reduceLeDiff, Nat.reduceAdd, Nat.reduceMul, Nat.reduceSub, Nat.reduceBEq, ↓reduceIte, bne_self_eq_false, Bool.and_false, Bool.false_and, Bool.true_or, Bool.false_or, xj, lk, wa, ws])
                          | (refine tr_drawM (id := 19) follows [0, 1, 3, 7, 7, 31, 63, 127, 255, 255, 1023, 255, 255, 6399, 16383, 32767, 65535, 131071, 262143, 524287, 1048575, 2097151, 2097151, 8388607, 16777215] (by kernel_rfl) ?_; (try (rw [List.append_eq]; simp only [List.cons_append, List.nil_append])); simp (maxSteps := 4000000) only [go_sem, List.getElem?_toArray, str_beq, reduceCtorEq, Nat.reduceEqDiff, Nat.reduceLT, Nat.reduceLeDiff, Nat.reduceAdd, Nat.reduceMul, Nat.reduceSub, Nat.reduceBEq, ↓reduceIte, bne_self_eq_false, Bool.and_false, Bool.false_and, Bool.true_or, Bool.false_or, xj, lk, wa, ws])
                          | (refine tr_drawM (id := 35) follows [0, 0, 0, 6, 14, 30, 63, 0, 0, 0, 768, 1792, 3840, 8064, 16383, 32767, 65535, 65535, 65535, 458751, 983039, 2031615, 4194303, 8388607, 16777215, 33554431, 67108863, 134217727, 268435455, 536870911, 536870911, 1610612735, 4294967295, 8589934591, 17179869183, 536870911, 536870911, 103616086015, 241055039487, 515932946431, 1099511627775, 2199023255551, 4398046511103] (by kernel_rfl) ?_; (try (rw [List.append_eq]; simp only [List.cons_append, List.nil_append])); simp (maxSteps := 4000000) only [go_sem, List.getElem?_toArray, str_beq, reduceCtorEq, Nat.reduceEqDiff, Nat.reduceLT, Nat.reduceLeDiff, Nat.reduceAdd, Nat.reduceMul, Nat.reduceSub, Nat.reduceBEq, ↓reduceIte, bne_self_eq_false, Bool.and_false, Bool.false_and, Bool.true_or, Bool.false_or, xj, lk, wa, ws])
                          | refine k_of (by assumption) ?_
                          | refine tr_block ?_
                          | refine tr_scope ?_
                          | (refine tr_skip ?_; try simp only [ex_seq, ex_block])
                          | (refine tr_label ?_; try simp only [ex_seq, ex_block])
                          | (refine tr_exit ?_; try simp only [ex_seq_exit, ex_block_exit, Nat.reduceEqDiff, if_true, if_false, ex_seq, ex_block, reduceCtorEq, ↓reduceIte])
                          | (refine tr_ret ?_; try simp only [ex_seq_ret, ex_block_ret]))
                      exact back _ _ hjl ⟨⟨rfl, rfl, rfl, rfl, rfl, rfl, rfl, trivial⟩, Keep.refl _, low2 _ _, lt.wf, Nat.le_refl _, Nat.le_refl _⟩ (by omega)
                  · cases hf
                | true =>
                  have hj00 : 0 < j := by have := of_decide_eq_true hj0; omega
                  obtain ⟨j', rfl⟩ : ∃ j', j = j' + 1 := ⟨j - 1, by omega⟩
                  have xj1 := idxX (ex := ex3) (show j' < (exL E).length by omega)
                  have wm : IntKind.i64.wrap ((((j' + 1 : Nat)) : Int) - 1) = (j' : Int) := by rw [wrap_in (by omega)]; omega
                  have hlt2 := exL_lt hjl
                  have g2 : decide ((((exL E)[j']).1 : Int) ≥ (((exL E)[j' + 1]).1 : Nat)) = false := decide_eq_false (by omega)
                  repeat (first
                      | refine tr_seq_k fun _ _ => ?_
                      | (refine tr_region ?_; simp only [go_sem, List.getElem?_toArray, str_beq, reduceCtorEq, Nat.reduceEqDiff, Nat.reduceLT, Nat.reduceLeDiff, Nat.reduceAdd, Nat.reduceMul, Nat.reduceSub, Nat.reduceBEq, ↓reduceIte, bne_self_eq_false, Bool.and_false, Bool.false_and, Bool.true_or, Bool.false_or, e1])
                      | (refine tr_drawM (id := 19) follows [0, 1, 3, 7, 7, 31, 63, 127, 255, 255, 1023, 255, 255, 6399, 16383, 32767, 65535, 131071, 262143, 524287, 1048575, 2097151, 2097151, 8388607, 16777215] (by kernel_rfl) ?_; (try (rw [List.append_eq]; simp only [List.cons_append, List.nil_append])); simp (maxSteps := 4000000) only [go_sem, List.getElem?_toArray, str_beq, reduceCtorEq, Nat.reduceEqDiff, Nat.reduceLT, Nat.reduceLeDiff, Nat.reduceAdd, Nat.reduceMul, Nat.reduceSub, Nat.reduceBEq, ↓reduceIte, bne_self_eq_false, Bool.and_false, Bool.false_and, Bool.true_or, Bool.false_or, e1])
                      | (refine tr_drawM (id := 35) follows [0, 0, 0, 6, 14, 30, 63, 0, 0, 0, 768, 1792, 3840, 8064, 16383, 32767, 65535, 65535, 65535, 458751, 983039, 2031615, 4194303, 8388607, 16777215, 33554431, 67108863, 134217727, 268435455, 536870911, 536870911, 1610612735, 4294967295, 8589934591, 17179869183, 536870911, 536870911, 103616086015, 241055039487, 515932946431, 1099511627775, 2199023255551, 4398046511103] (by kernel_rfl) ?_; (try (rw [List.append_eq]; simp only [List.cons_append, List.nil_append])); simp (maxSteps := 4000000) only [go_sem, List.getElem?_toArray, str_beq, reduceCtorEq, Nat.reduceEqDiff, Nat.reduceLT, Nat.reduceLeDiff, Nat.reduceAdd, Nat.reduceMul, Nat.reduceSub, Nat.reduceBEq, ↓reduceIte, bne_self_eq_false, Bool.and_false, Bool.false_and, Bool.true_or, Bool.false_or, e1])
                      | refine k_of (by assumption) ?_
                      | refine tr_block ?_
                      | refine tr_scope ?_
                      | (refine tr_skip ?_; try simp only [ex_seq, ex_block])
                      | (refine tr_label ?_; try simp only [ex_seq, ex_block])
                      | (refine tr_exit ?_; try simp only [ex_seq_exit, ex_block_exit, Nat.reduceEqDiff, if_true, if_false, ex_seq, ex_block, reduceCtorEq, ↓reduceIte])
                      | (refine tr_ret ?_; try simp only [ex_seq_ret, ex_block_ret]))
                  refine tr_cond rfl (fun ht => ?_) (fun hf => ?_)
                  · repeat (first
                        | refine tr_seq_k fun _ _ => ?_
                        | (refine tr_region ?_; simp only [go_sem, List.getElem?_toArray, str_beq, reduceCtorEq, Nat.reduceEqDiff, Nat.reduceLT, Nat.reduceLeDiff, Nat.reduceAdd, Nat.reduceMul, Nat.reduceSub, Nat.reduceBEq, ↓reduceIte, bne_self_eq_false, Bool.and_false, Bool.false_and, Bool.true_or, Bool.false_or, xj, lk, g1, hj0, wm, xj1, g2])
                        | (refine tr_drawM (id := 19) follows [0, 1, 3, 7, 7, 31, 63, 127, 255, 255, 1023, 255, 255, 6399, 16383, 32767, 65535, 131071, 262143, 524287, 1048575, 2097151, 2097151, 8388607, 16777215] (by kernel_rfl) ?_; (try (rw [List.append_eq]; simp only [List.cons_append, List.nil_append])); simp (maxSteps := 4000000) only [go_sem, List.getElem?_toArray, str_beq, reduceCtorEq, Nat.reduceEqDiff, Nat.reduceLT, Nat.reduceLeDiff, Nat.reduceAdd, Nat.reduceMul, Nat.reduceSub, Nat.reduceBEq, ↓reduceIte, bne_self_eq_false, Bool.and_false, Bool.false_and, Bool.true_or, Bool.false_or, xj, lk, g1, hj0, wm, xj1, g2])
                        | (refine tr_drawM (id := 35) follows [0, 0, 0, 6, 14, 30, 63, 0, 0, 0, 768, 1792, 3840, 8064, 16383, 32767, 65535, 65535, 65535, 458751, 983039, 2031615, 4194303, 8388607, 16777215, 33554431, 67108863, 134217727, 268435455, 536870911, 536870911, 1610612735, 4294967295, 8589934591, 17179869183, 536870911, 536870911, 103616086015, 241055039487, 515932946431, 1099511627775, 2199023255551, 4398046511103] (by kernel_rfl) ?_; (try (rw [List.append_eq]; simp only [List.cons_append, List.nil_append])); simp (maxSteps := 4000000) only [go_sem, List.getElem?_toArray, str_beq, reduceCtorEq, Nat.reduceEqDiff, Nat.reduceLT, Nat.reduceLeDiff, Nat.reduceAdd, Nat.reduceMul, Nat.reduceSub, Nat.reduceBEq, ↓reduceIte, bne_self_eq_false, Bool.and_false, Bool.false_and, Bool.true_or, Bool.false_or, xj, lk, g1, hj0, wm, xj1, g2])
                        | (refine call_givesW (cU) ?_; (try dsimp only); (try simp only [go_sem, List.getElem?_toArray, str_beq, reduceCtorEq, Nat.reduceEqDiff, Nat.reduceLT, Nat.reduceLeDiff, Nat.reduceAdd, Nat.reduceMul, Nat.reduceSub, Nat.reduceBEq, ↓reduceIte, bne_self_eq_false, Bool.and_false, Bool.false_and, Bool.true_or, Bool.false_or, xj, lk, g1, hj0, wm, xj1, g2]))
                        | refine k_of (by assumption) ?_
                        | refine tr_block ?_
                        | refine tr_scope ?_
                        | (refine tr_skip ?_; try simp only [ex_seq, ex_block])
                        | (refine tr_label ?_; try simp only [ex_seq, ex_block])
                        | (refine tr_exit ?_; try simp only [ex_seq_exit, ex_block_exit, Nat.reduceEqDiff, if_true, if_false, ex_seq, ex_block, reduceCtorEq, ↓reduceIte])
                        | (refine tr_ret ?_; try simp only [ex_seq_ret, ex_block_ret]))
                    refine tr_cond rfl (fun ht => ?_) (fun hf => ?_)
                    · cases ht
                    · repeat (first
                          | refine tr_seq_k fun _ _ => ?_
                          | (refine tr_region ?_; simp only [go_sem, List.getElem?_toArray, str_beq, reduceCtorEq, Nat.reduceEqDiff, Nat.reduceLT, Nat.reduceLeDiff, Nat.reduceAdd, Nat.reduceMul, Nat.reduceSub, Nat.reduceBEq, ↓reduceIte, bne_self_eq_false, Bool.and_false, Bool.false_and, Bool.true_or, Bool.false_or, xj, lk, wa, ws])
                          | (refine tr_drawM (id := 19) follows [0, 1, 3, 7, 7, 31, 63, 127, 255, 255, 1023, 255, 255, 6399, 16383, 32767, 65535, 131071, 262143, 524287, 1048575, 2097151, 2097151, 8388607, 16777215] (by kernel_rfl) ?_; (try (rw [List.append_eq]; simp only [List.cons_append, List.nil_append])); simp (maxSteps := 4000000) only [go_sem, List.getElem?_toArray, str_beq, reduceCtorEq, Nat.reduceEqDiff, Nat.reduceLT, Nat.reduceLeDiff, Nat.reduceAdd, Nat.reduceMul, Nat.reduceSub, Nat.reduceBEq, ↓reduceIte, bne_self_eq_false, Bool.and_false, Bool.false_and, Bool.true_or, Bool.false_or, xj, lk, wa, ws])
                          | (refine tr_drawM (id := 35) follows [0, 0, 0, 6, 14, 30, 63, 0, 0, 0, 768, 1792, 3840, 8064, 16383, 32767, 65535, 65535, 65535, 458751, 983039, 2031615, 4194303, 8388607, 16777215, 33554431, 67108863, 134217727, 268435455, 536870911, 536870911, 1610612735, 4294967295, 8589934591, 17179869183, 536870911, 536870911, 103616086015, 241055039487, 515932946431, 1099511627775, 2199023255551, 4398046511103] (by kernel_rfl) ?_; (try (rw [List.append_eq]; simp only [List.cons_append, List.nil_append])); simp (maxSteps := 4000000) only [go_sem, List.getElem?_toArray, str_beq, reduceCtorEq, Nat.reduceEqDiff, Nat.reduceLT, Nat.reduceLeDiff, Nat.reduceAdd, Nat.reduceMul, Nat.reduceSub, Nat.reduceBEq, ↓reduceIte, bne_self_eq_false, Bool.and_false, Bool.false_and, Bool.true_or, Bool.false_or, xj, lk, wa, ws])
                          | refine k_of (by assumption) ?_
                          | refine tr_block ?_
                          | refine tr_scope ?_
                          | (refine tr_skip ?_; try simp only [ex_seq, ex_block])
                          | (refine tr_label ?_; try simp only [ex_seq, ex_block])
                          | (refine tr_exit ?_; try simp only [ex_seq_exit, ex_block_exit, Nat.reduceEqDiff, if_true, if_false, ex_seq, ex_block, reduceCtorEq, ↓reduceIte])
                          | (refine tr_ret ?_; try simp only [ex_seq_ret, ex_block_ret]))
                      exact back _ _ hjl ⟨⟨rfl, rfl, rfl, rfl, rfl, rfl, rfl, trivial⟩, Keep.refl _, low2 _ _, lt.wf, Nat.le_refl _, Nat.le_refl _⟩ (by omega)
                  · cases hf
              · have hjE : j = (exL E).length := by omega
                have e1 : decide ((j : Int) < ((exL E).length : Nat)) = false := decide_eq_false (by omega)
                have hfin : sumX N ((exL E).take j) = totL N := by rw [hjE, List.take_of_length_le (Nat.le_refl _), hsum]
                rw [hfin]
                repeat (first
                    | refine tr_seq_k fun _ _ => ?_
                    | (refine tr_region ?_; simp only [go_sem, List.getElem?_toArray, str_beq, reduceCtorEq, Nat.reduceEqDiff, Nat.reduceLT, Nat.reduceLeDiff, Nat.reduceAdd, Nat.reduceMul, Nat.reduceSub, Nat.reduceBEq, ↓reduceIte, bne_self_eq_false, Bool.and_false, Bool.false_and, Bool.true_or, Bool.false_or, e1])
                    | (refine tr_drawM (id := 19) follows [0, 1, 3, 7, 7, 31, 63, 127, 255, 255, 1023, 255, 255, 6399, 16383, 32767, 65535, 131071, 262143, 524287, 1048575, 2097151, 2097151, 8388607, 16777215] (by kernel_rfl) ?_; (try (rw [List.append_eq]; simp only [List.cons_append, List.nil_append])); simp (maxSteps := 4000000) only [go_sem, List.getElem?_toArray, str_beq, reduceCtorEq, Nat.reduceEqDiff, Nat.reduceLT, Nat.reduceLeDiff, Nat.reduceAdd, Nat.reduceMul, Nat.reduceSub, Nat.reduceBEq, ↓reduceIte, bne_self_eq_false, Bool.and_false, Bool.false_and, Bool.true_or, Bool.false_or, e1])
                    | (refine tr_drawM (id := 35) follows [0, 0, 0, 6, 14, 30, 63, 0, 0, 0, 768, 1792, 3840, 8064, 16383, 32767, 65535, 65535, 65535, 458751, 983039, 2031615, 4194303, 8388607, 16777215, 33554431, 67108863, 134217727, 268435455, 536870911, 536870911, 1610612735, 4294967295, 8589934591, 17179869183, 536870911, 536870911, 103616086015, 241055039487, 515932946431, 1099511627775, 2199023255551, 4398046511103] (by kernel_rfl) ?_; (try (rw [List.append_eq]; simp only [List.cons_append, List.nil_append])); simp (maxSteps := 4000000) only [go_sem, List.getElem?_toArray, str_beq, reduceCtorEq, Nat.reduceEqDiff, Nat.reduceLT, Nat.reduceLeDiff, Nat.reduceAdd, Nat.reduceMul, Nat.reduceSub, Nat.reduceBEq, ↓reduceIte, bne_self_eq_false, Bool.and_false, Bool.false_and, Bool.true_or, Bool.false_or, e1])
                    | refine k_of (by assumption) ?_
                    | refine tr_block ?_
                    | refine tr_scope ?_
                    | (refine tr_skip ?_; try simp only [ex_seq, ex_block])
                    | (refine tr_label ?_; try simp only [ex_seq, ex_block])
                    | (refine tr_exit ?_; try simp only [ex_seq_exit, ex_block_exit, Nat.reduceEqDiff, if_true, if_false, ex_seq, ex_block, reduceCtorEq, ↓reduceIte])
                    | (refine tr_ret ?_; try simp only [ex_seq_ret, ex_block_ret]))
                refine tr_cond rfl (fun ht => ?_) (fun hf => ?_)
                · cases ht
                · repeat (first
                      | refine tr_seq_k fun _ _ => ?_
                      | (refine tr_region ?_; simp only [go_sem, List.getElem?_toArray, str_beq, reduceCtorEq, Nat.reduceEqDiff, Nat.reduceLT, Nat.reduceLeDiff, Nat.reduceAdd, Nat.reduceMul, Nat.reduceSub, Nat.reduceBEq, ↓reduceIte, bne_self_eq_false, Bool.and_false, Bool.false_and, Bool.true_or, Bool.false_or])
                      | (refine tr_drawM (id := 19) follows [0, 1, 3, 7, 7, 31, 63, 127, 255, 255, 1023, 255, 255, 6399, 16383, 32767, 65535, 131071, 262143, 524287, 1048575, 2097151, 2097151, 8388607, 16777215] (by kernel_rfl) ?_; (try (rw [List.append_eq]; simp only [List.cons_append, List.nil_append])); simp (maxSteps := 4000000) only [go_sem, List.getElem?_toArray, str_beq, reduceCtorEq, Nat.reduceEqDiff, Nat.reduceLT, Nat.reduceLeDiff, Nat.reduceAdd, Nat.reduceMul, Nat.reduceSub, Nat.reduceBEq, ↓reduceIte, bne_self_eq_false, Bool.and_false, Bool.false_and, Bool.true_or, Bool.false_or])
                      | (refine tr_drawM (id := 35) follows [0, 0, 0, 6, 14, 30, 63, 0, 0, 0, 768, 1792, 3840, 8064, 16383, 32767, 65535, 65535, 65535, 458751, 983039, 2031615, 4194303, 8388607, 16777215, 33554431, 67108863, 134217727, 268435455, 536870911, 536870911, 1610612735, 4294967295, 8589934591, 17179869183, 536870911, 536870911, 103616086015, 241055039487, 515932946431, 1099511627775, 2199023255551, 4398046511103] (by kernel_rfl) ?_; (try (rw [List.append_eq]; simp only [List.cons_append, List.nil_append])); simp (maxSteps := 4000000) only [go_sem, List.getElem?_toArray, str_beq, reduceCtorEq, Nat.reduceEqDiff, Nat.reduceLT, Nat.reduceLeDiff, Nat.reduceAdd, Nat.reduceMul, Nat.reduceSub, Nat.reduceBEq, ↓reduceIte, bne_self_eq_false, Bool.and_false, Bool.false_and, Bool.true_or, Bool.false_or])
                      | refine k_of (by assumption) ?_
                      | refine tr_block ?_
                      | refine tr_scope ?_
                      | (refine tr_skip ?_; try simp only [ex_seq, ex_block])
                      | (refine tr_label ?_; try simp only [ex_seq, ex_block])
                      | (refine tr_exit ?_; try simp only [ex_seq_exit, ex_block_exit, Nat.reduceEqDiff, if_true, if_false, ex_seq, ex_block, reduceCtorEq, ↓reduceIte])
                      | (refine tr_ret ?_; try simp only [ex_seq_ret, ex_block_ret]))
                  have lowC : ∀ (i' : Nat) (x y z : Int), m.hp.length ≤ i' → lowF i' m.hw.length [(0, slR stC ex T), (5, .ptr bt 0), (6, .mapp bm), (15, iA x), (16, slR exC ex3 (exL E)), (17, bA true), (19, iA y), (20, iA z)] = true := fun i' x y z hi' => by
                    simp only [lowF, slR, low, Bool.and_true, Bool.true_and, Nat.blt_eq, Bool.and_eq_true]
                    exact ⟨by omega, by omega⟩
                  have cl0 : Cl T N 0 := ⟨lt.keys, lt.nd, fun _ _ h => absurd h (Nat.not_lt_zero _)⟩
                  refine tr_loop_k (σ := Mm × List (ByteArray × Nat) × Nat) (fun q => [(0, slR stC ex T), (5, .ptr bt 0), (6, .mapp bm), (15, iA (totL N : Nat)), (16, slR exC ex3 (exL E)), (17, bA true), (19, iA (totL N - totL q.2.1 : Nat)), (20, iA q.2.2)]) (fun q => q.1)
                    (fun q => TabM q.1 bt E S ∧ Wf q.1 ∧ q.1.hp[bm]? = some ⟨false, [.ent (nmI q.2.1)]⟩ ∧ Cl T q.2.1 q.2.2 ∧ totL q.2.1 ≤ totL N ∧ q.2.2 ≤ T.length ∧ m.hp.length ≤ q.1.hp.length ∧ q.1.hw = m.hw) (fun q => T.length - q.2.2) (m, N, 0) ⟨lt.tab, lt.wf, lt.cnt, cl0, Nat.le_refl _, Nat.zero_le _, Nat.le_refl _, rfl⟩ ⟨rfl, rfl, rfl, rfl, rfl, rfl, by rw [Nat.sub_self]; rfl, rfl, trivial⟩ rfl ?_
                  rintro ⟨m3, N3, k⟩ ⟨t3, w3, c3, cl, hle, hk, hL3, hw3⟩ K3 hK3
                  dsimp only at t3 w3 c3 cl hle hk hL3 hw3 hK3
                  clear hat hsl hK2 low2 cE
                  by_cases hkT : k < T.length
                  · have f1 : decide ((k : Int) < (T.length : Nat)) = true := decide_eq_true (by omega)
                    have ix := idxT (ex := ex) hkT
                    have lk := look_cnt c3 T[k]
                    have pk := put_cnt c3 T[k] 0
                    have pk : aMapPut Try.prog m3 56 (.mapp bm) (.string T[k]) (.int .i64 0) = some (setB m3 bm ⟨false, [.ent (nmI (putL N3 T[k] 0))]⟩) := pk
                    have hg := getL_le N3 T[k]
                    have htp := tot_put N3 T[k] 0
                    have cl2 := cl.next hkT
                    have hb3 : bm < m3.hp.length := (List.getElem?_eq_some_iff.1 c3).1
                    obtain ⟨m4, hm4⟩ : ∃ m4, m4 = setB m3 bm ⟨false, [.ent (nmI (putL N3 T[k] 0))]⟩ := ⟨_, rfl⟩
                    obtain ⟨t4, w4⟩ := TabM.setCnt t3 w3 lt.out (blk := ⟨false, [.ent (nmI (putL N3 T[k] 0))]⟩) rfl hb3
                    have hc4 : (setB m3 bm ⟨false, [.ent (nmI (putL N3 T[k] 0))]⟩).hp[bm]? = some ⟨false, [.ent (nmI (putL N3 T[k] 0))]⟩ := setB_self hb3 _
                    rw [← hm4] at t4 w4 hc4 pk
                    have hl4 : m4.hp.length = m3.hp.length := by rw [hm4]; exact setB_len _ _ _
                    have hw4 : m4.hw = m3.hw := by rw [hm4]; rfl
                    clear hm4
                    have wa : IntKind.i64.wrap (((totL N - totL N3 : Nat) : Int) + ((getL N3 T[k] : Nat) : Int)) = ((totL N - totL (putL N3 T[k] 0) : Nat) : Int) := by rw [wrap_in (by omega)]; omega
                    have ws := wrap_succ (show k ≤ 1000000000 by omega)
                    repeat (first
                        | refine tr_seq_k fun _ _ => ?_
                        | (refine tr_region ?_; simp only [go_sem, List.getElem?_toArray, str_beq, reduceCtorEq, Nat.reduceEqDiff, Nat.reduceLT, Nat.reduceLeDiff, Nat.reduceAdd, Nat.reduceMul, Nat.reduceSub, Nat.reduceBEq, ↓reduceIte, bne_self_eq_false, Bool.and_false, Bool.false_and, Bool.true_or, Bool.false_or, f1])
                        | (refine tr_drawM (id := 19) follows [0, 1, 3, 7, 7, 31, 63, 127, 255, 255, 1023, 255, 255, 6399, 16383, 32767, 65535, 131071, 262143, 524287, 1048575, 2097151, 2097151, 8388607, 16777215] (by kernel_rfl) ?_; (try (rw [List.append_eq]; simp only [List.cons_append, List.nil_append])); simp (maxSteps := 4000000) only [go_sem, List.getElem?_toArray, str_beq, reduceCtorEq, Nat.reduceEqDiff, Nat.reduceLT, Nat.reduceLeDiff, Nat.reduceAdd, Nat.reduceMul, Nat.reduceSub, Nat.reduceBEq, ↓reduceIte, bne_self_eq_false, Bool.and_false, Bool.false_and, Bool.true_or, Bool.false_or, f1])
                        | (refine tr_drawM (id := 35) follows [0, 0, 0, 6, 14, 30, 63, 0, 0, 0, 768, 1792, 3840, 8064, 16383, 32767, 65535, 65535, 65535, 458751, 983039, 2031615, 4194303, 8388607, 16777215, 33554431, 67108863, 134217727, 268435455, 536870911, 536870911, 1610612735, 4294967295, 8589934591, 17179869183, 536870911, 536870911, 103616086015, 241055039487, 515932946431, 1099511627775, 2199023255551, 4398046511103] (by kernel_rfl) ?_; (try (rw [List.append_eq]; simp only [List.cons_append, List.nil_append])); simp (maxSteps := 4000000) only [go_sem, List.getElem?_toArray, str_beq, reduceCtorEq, Nat.reduceEqDiff, Nat.reduceLT, Nat.reduceLeDiff, Nat.reduceAdd, Nat.reduceMul, Nat.reduceSub, Nat.reduceBEq, ↓reduceIte, bne_self_eq_false, Bool.and_false, Bool.false_and, Bool.true_or, Bool.false_or, f1])
                        | refine k_of (by assumption) ?_
                        | refine tr_block ?_
                        | refine tr_scope ?_
                        | (refine tr_skip ?_; try simp only [ex_seq, ex_block])
                        | (refine tr_label ?_; try simp only [ex_seq, ex_block])
                        | (refine tr_exit ?_; try simp only [ex_seq_exit, ex_block_exit, Nat.reduceEqDiff, if_true, if_false, ex_seq, ex_block, reduceCtorEq, ↓reduceIte])
                        | (refine tr_ret ?_; try simp only [ex_seq_ret, ex_block_ret]))
                    refine tr_cond rfl (fun ht => ?_) (fun hf => ?_)
                    · repeat (first
                          | refine tr_seq_k fun _ _ => ?_
                          | (refine tr_region ?_; simp only [go_sem, List.getElem?_toArray, str_beq, reduceCtorEq, Nat.reduceEqDiff, Nat.reduceLT, Nat.reduceLeDiff, Nat.reduceAdd, Nat.reduceMul, Nat.reduceSub, Nat.reduceBEq, ↓reduceIte, bne_self_eq_false, Bool.and_false, Bool.false_and, Bool.true_or, Bool.false_or, ix, lk, wa, pk, ws])
                          | (refine tr_drawM (id := 19) follows [0, 1, 3, 7, 7, 31, 63, 127, 255, 255, 1023, 255, 255, 6399, 16383, 32767, 65535, 131071, 262143, 524287, 1048575, 2097151, 2097151, 8388607, 16777215] (by kernel_rfl) ?_; (try (rw [List.append_eq]; simp only [List.cons_append, List.nil_append])); simp (maxSteps := 4000000) only [go_sem, List.getElem?_toArray, str_beq, reduceCtorEq, Nat.reduceEqDiff, Nat.reduceLT, Nat.reduceLeDiff, Nat.reduceAdd, Nat.reduceMul, Nat.reduceSub, Nat.reduceBEq, ↓reduceIte, bne_self_eq_false, Bool.and_false, Bool.false_and, Bool.true_or, Bool.false_or, ix, lk, wa, pk, ws])
                          | (refine tr_drawM (id := 35) follows [0, 0, 0, 6, 14, 30, 63, 0, 0, 0, 768, 1792, 3840, 8064, 16383, 32767, 65535, 65535, 65535, 458751, 983039, 2031615, 4194303, 8388607, 16777215, 33554431, 67108863, 134217727, 268435455, 536870911, 536870911, 1610612735, 4294967295, 8589934591, 17179869183, 536870911, 536870911, 103616086015, 241055039487, 515932946431, 1099511627775, 2199023255551, 4398046511103] (by kernel_rfl) ?_; (try (rw [List.append_eq]; simp only [List.cons_append, List.nil_append])); simp (maxSteps := 4000000) only [go_sem, List.getElem?_toArray, str_beq, reduceCtorEq, Nat.reduceEqDiff, Nat.reduceLT, Nat.reduceLeDiff, Nat.reduceAdd, Nat.reduceMul, Nat.reduceSub, Nat.reduceBEq, ↓reduceIte, bne_self_eq_false, Bool.and_false, Bool.false_and, Bool.true_or, Bool.false_or, ix, lk, wa, pk, ws])
                          | refine k_of (by assumption) ?_
                          | refine tr_block ?_
                          | refine tr_scope ?_
                          | (refine tr_skip ?_; try simp only [ex_seq, ex_block])
                          | (refine tr_label ?_; try simp only [ex_seq, ex_block])
                          | (refine tr_exit ?_; try simp only [ex_seq_exit, ex_block_exit, Nat.reduceEqDiff, if_true, if_false, ex_seq, ex_block, reduceCtorEq, ↓reduceIte])
                          | (refine tr_ret ?_; try simp only [ex_seq_ret, ex_block_ret]))
                      exact hK3 (m4, putL N3 T[k] 0, k + 1) _ _ ⟨t4, w4, hc4, cl2, by dsimp only; omega, hkT, by dsimp only; omega, hw4.trans hw3⟩ ⟨⟨rfl, rfl, rfl, rfl, rfl, rfl, rfl, rfl, trivial⟩, Keep.refl _, by dsimp only; rw [hw4, hw3]; exact lowC _ _ _ _ (by omega), w4, by dsimp only; omega, by dsimp only; rw [hw4, hw3]; exact Nat.le_refl _⟩ (by dsimp only; omega)
                    · cases hf
                  · have hkE : k = T.length := by omega
                    have f1 : decide ((k : Int) < (T.length : Nat)) = false := decide_eq_false (by omega)
                    rw [hkE] at cl
                    have hz := cl.end
                    rw [hz, Nat.sub_zero]
                    have cLen := len_tab t3
                    rw [hlen0] at cLen
                    repeat (first
                        | refine tr_seq_k fun _ _ => ?_
                        | (refine tr_region ?_; simp only [go_sem, List.getElem?_toArray, str_beq, reduceCtorEq, Nat.reduceEqDiff, Nat.reduceLT, Nat.reduceLeDiff, Nat.reduceAdd, Nat.reduceMul, Nat.reduceSub, Nat.reduceBEq, ↓reduceIte, bne_self_eq_false, Bool.and_false, Bool.false_and, Bool.true_or, Bool.false_or, f1])
                        | (refine tr_drawM (id := 19) follows [0, 1, 3, 7, 7, 31, 63, 127, 255, 255, 1023, 255, 255, 6399, 16383, 32767, 65535, 131071, 262143, 524287, 1048575, 2097151, 2097151, 8388607, 16777215] (by kernel_rfl) ?_; (try (rw [List.append_eq]; simp only [List.cons_append, List.nil_append])); simp (maxSteps := 4000000) only [go_sem, List.getElem?_toArray, str_beq, reduceCtorEq, Nat.reduceEqDiff, Nat.reduceLT, Nat.reduceLeDiff, Nat.reduceAdd, Nat.reduceMul, Nat.reduceSub, Nat.reduceBEq, ↓reduceIte, bne_self_eq_false, Bool.and_false, Bool.false_and, Bool.true_or, Bool.false_or, f1])
                        | (refine tr_drawM (id := 35) follows [0, 0, 0, 6, 14, 30, 63, 0, 0, 0, 768, 1792, 3840, 8064, 16383, 32767, 65535, 65535, 65535, 458751, 983039, 2031615, 4194303, 8388607, 16777215, 33554431, 67108863, 134217727, 268435455, 536870911, 536870911, 1610612735, 4294967295, 8589934591, 17179869183, 536870911, 536870911, 103616086015, 241055039487, 515932946431, 1099511627775, 2199023255551, 4398046511103] (by kernel_rfl) ?_; (try (rw [List.append_eq]; simp only [List.cons_append, List.nil_append])); simp (maxSteps := 4000000) only [go_sem, List.getElem?_toArray, str_beq, reduceCtorEq, Nat.reduceEqDiff, Nat.reduceLT, Nat.reduceLeDiff, Nat.reduceAdd, Nat.reduceMul, Nat.reduceSub, Nat.reduceBEq, ↓reduceIte, bne_self_eq_false, Bool.and_false, Bool.false_and, Bool.true_or, Bool.false_or, f1])
                        | refine k_of (by assumption) ?_
                        | refine tr_block ?_
                        | refine tr_scope ?_
                        | (refine tr_skip ?_; try simp only [ex_seq, ex_block])
                        | (refine tr_label ?_; try simp only [ex_seq, ex_block])
                        | (refine tr_exit ?_; try simp only [ex_seq_exit, ex_block_exit, Nat.reduceEqDiff, if_true, if_false, ex_seq, ex_block, reduceCtorEq, ↓reduceIte])
                        | (refine tr_ret ?_; try simp only [ex_seq_ret, ex_block_ret]))
                    refine tr_cond rfl (fun ht => ?_) (fun hf => ?_)
                    · cases ht
                    · repeat (first
                          | refine tr_seq_k fun _ _ => ?_
                          | (refine tr_region ?_; simp only [go_sem, List.getElem?_toArray, str_beq, reduceCtorEq, Nat.reduceEqDiff, Nat.reduceLT, Nat.reduceLeDiff, Nat.reduceAdd, Nat.reduceMul, Nat.reduceSub, Nat.reduceBEq, ↓reduceIte, bne_self_eq_false, Bool.and_false, Bool.false_and, Bool.true_or, Bool.false_or])
                          | (refine tr_drawM (id := 19) follows [0, 1, 3, 7, 7, 31, 63, 127, 255, 255, 1023, 255, 255, 6399, 16383, 32767, 65535, 131071, 262143, 524287, 1048575, 2097151, 2097151, 8388607, 16777215] (by kernel_rfl) ?_; (try (rw [List.append_eq]; simp only [List.cons_append, List.nil_append])); simp (maxSteps := 4000000) only [go_sem, List.getElem?_toArray, str_beq, reduceCtorEq, Nat.reduceEqDiff, Nat.reduceLT, Nat.reduceLeDiff, Nat.reduceAdd, Nat.reduceMul, Nat.reduceSub, Nat.reduceBEq, ↓reduceIte, bne_self_eq_false, Bool.and_false, Bool.false_and, Bool.true_or, Bool.false_or])
                          | (refine tr_drawM (id := 35) follows [0, 0, 0, 6, 14, 30, 63, 0, 0, 0, 768, 1792, 3840, 8064, 16383, 32767, 65535, 65535, 65535, 458751, 983039, 2031615, 4194303, 8388607, 16777215, 33554431, 67108863, 134217727, 268435455, 536870911, 536870911, 1610612735, 4294967295, 8589934591, 17179869183, 536870911, 536870911, 103616086015, 241055039487, 515932946431, 1099511627775, 2199023255551, 4398046511103] (by kernel_rfl) ?_; (try (rw [List.append_eq]; simp only [List.cons_append, List.nil_append])); simp (maxSteps := 4000000) only [go_sem, List.getElem?_toArray, str_beq, reduceCtorEq, Nat.reduceEqDiff, Nat.reduceLT, Nat.reduceLeDiff, Nat.reduceAdd, Nat.reduceMul, Nat.reduceSub, Nat.reduceBEq, ↓reduceIte, bne_self_eq_false, Bool.and_false, Bool.false_and, Bool.true_or, Bool.false_or])
                          | (refine call_givesW (cLen) ?_; (try dsimp only); (try simp only [go_sem, List.getElem?_toArray, str_beq, reduceCtorEq, Nat.reduceEqDiff, Nat.reduceLT, Nat.reduceLeDiff, Nat.reduceAdd, Nat.reduceMul, Nat.reduceSub, Nat.reduceBEq, ↓reduceIte, bne_self_eq_false, Bool.and_false, Bool.false_and, Bool.true_or, Bool.false_or]))
                          | refine k_of (by assumption) ?_
                          | refine tr_block ?_
                          | refine tr_scope ?_
                          | (refine tr_skip ?_; try simp only [ex_seq, ex_block])
                          | (refine tr_label ?_; try simp only [ex_seq, ex_block])
                          | (refine tr_exit ?_; try simp only [ex_seq_exit, ex_block_exit, Nat.reduceEqDiff, if_true, if_false, ex_seq, ex_block, reduceCtorEq, ↓reduceIte])
                          | (refine tr_ret ?_; try simp only [ex_seq_ret, ex_block_ret]))
                      refine (hQ _ _ [bA true] ?_ (fun m => ?_)).2 <;> simp only [go_sem, List.getElem?_toArray, str_beq, reduceCtorEq, Nat.reduceEqDiff, Nat.reduceLT, Nat.reduceLeDiff, Nat.reduceAdd, Nat.reduceMul, Nat.reduceSub, Nat.reduceBEq, ↓reduceIte, bne_self_eq_false, Bool.and_false, Bool.false_and, Bool.true_or, Bool.false_or, Try.f6,]
end Go.Proofs.Ytlhlcfijpdknfaa

namespace Go.Proofs.Ytlhlcfijpdknfaa.least
open Go.ChangeShapes Go.WideShapes Go.ChangeAt Go.RowKit Go.Vs Go.Vs.Ab

theorem own : ownKnob Try.prog.godebug = none := by kernel_rfl
theorem laidOut : laidOutB Try.prog = true := by kernel_rfl
theorem readable : (Try.f6.params.toList.all fun t => Try.prog.readableRec t && decide (t < Try.prog.types.size)) = true := by kernel_rfl
theorem shape54 : shapeOf Try.prog 8 54 = some [.sl [.str]] := by kernel_rfl
theorem shape55 : shapeOf Try.prog 8 55 = some [.sl [.int]] := by kernel_rfl
theorem inD {d : Nat} {w : World} : Dec d w [.int] inC (fun _ => True) := fun cs t0 => by
  obtain ⟨c0, r0, rfl, h0, t1⟩ := all2_cons t0
  obtain rfl := all2_nil t1
  obtain ⟨x0, e0, _⟩ := dec_int h0
  exact ⟨x0, .cons e0 .nil, trivial⟩

set_option maxRecDepth 100000 in
theorem lifted (os : Os) (started : os.Started) (H : Type) (enc : TypeId × Value → H) :
    ReturnsInHanded {} Try.checked os 6 .any (Rows.internLeastSpec.pre6 enc Try.prog Try.f6 Rows.internLeastRow.domain false) (Rows.internLeastSpec.post enc Try.prog Try.f6 false true false false) := by
  refine returnsInHanded_of_change (C := Try.checked) own started (by kernel_rfl) Try.func6
    (ChangeSpec.witness6 (enc := enc) (C := Try.checked) false ⟨#[], #[.slice none 0 0, .slice none 0 0], []⟩ 8 (by kernel_rfl) (by kernel_rfl) (by kernel_rfl) (by kernel_rfl)) ?_
  intro W base args ds gs before hval0 hW hcnd _
  have hval : ∀ (j : Nat) t v, Try.f6.params[j]? = some t → args[j]? = some v → Value.okWide Try.prog W .any base t v := hval0
  have hW' := hW
  obtain ⟨p, q, hA0, hV, rfl, hfz, hnd⟩ := hW
  have hA : DataW.TrodAll enc Try.prog W 0 (fun _ => true) true Try.f6.params.toList args.toList ds p := hA0
  rw [Try.params6] at hA hval
  obtain ⟨v0, vs0, d0, ds0, p0, q0, hargs, rfl, rfl, h0, r0⟩ := trodAll_cons hA
  obtain ⟨v1, vs1, d1, ds1, p1, q1, rfl, rfl, rfl, h1, r1⟩ := trodAll_cons r0
  obtain ⟨rfl, rfl, rfl⟩ := trodAll_nil r1
  obtain rfl : args = #[v0, v1] := by cases args; simp_all
  obtain ⟨rfl, rfl⟩ := trodVars_none hV
  obtain ⟨a0, R0, _⟩ := open_sl Try.underlying54 shape54 stD (hval 0 54 v0 rfl rfl) h0
  obtain ⟨a1, R1, _⟩ := open_sl Try.underlying55 shape55 inD (hval 1 55 v1 rfl rfl) h1
  refine ((least_does a0 a1 false false).bool (Reps.cons R0 (Reps.cons R1 Reps.nil))).mono fun e W' ⟨he, hb⟩ => ?_
  subst he
  refine ⟨_, rfl, law_post (tb := 4) hW' rfl rfl laidOut (fun t ht => ?_) rfl Try.underlying4 hb⟩
  have := List.all_eq_true.1 readable t ht
  simp only [Bool.and_eq_true, decide_eq_true_eq] at this
  exact this

theorem holds : Rows.InternLeastSaid :=
  OpenClaim.holds_of_wide 6 Try.f6 rfl rfl rfl rfl rfl rfl rfl ⟨rfl, rfl, rfl, rfl, rfl⟩ rfl rfl rfl rfl rfl (by kernel_rfl) Try.func6 (by kernel_rfl)
    (of_decide_eq_true (by kernel_rfl)) (by unfold Func.isWrapper; first | (rw [if_pos (by decide +kernel)]; kernel_rfl) | (rw [if_neg (by decide +kernel)]; exact ⟨rfl, rfl⟩))
    (fun os started H enc _ => lifted os started H enc)
#print axioms holds
end Go.Proofs.Ytlhlcfijpdknfaa.least
