/-
  For every input the statement InternAgain returns true, and leaves its arguments as they were.
-/
import Derived.Test.YtlhlcfijpdknfaaInm0
import Derived.Test.YtlhlcfijpdknfaaAq
import Derived.Test.YtlhlcfijpdknfaaLaw
import Derived.Test.YtlhlcfijpdknfaaRows
/-
  Chapter 2: numbers from 0 on, dropped and given again: the law InternAgain.
-/
set_option linter.unusedSimpArgs false
set_option linter.unusedVariables false
namespace Go.Proofs.Ytlhlcfijpdknfaa
open Go.Vs Go.Vs.Ab Go.Vs.Hp Go.Vs.Tb
set_option maxRecDepth 100000
set_option maxHeartbeats 4000000

def aS (k : Nat) : ByteArray := repS ⟨#[97]⟩ k
theorem aS_size (k : Nat) : (aS k).size = k := by
  unfold aS
  rw [repS_size]
  show k * 1 = k
  omega
theorem aS_ne {i k : Nat} (h : i ≠ k) : aS i ≠ aS k := fun e => h (by rw [← aS_size i, e, aS_size])
theorem aS_emp {k : Nat} (h : 0 < k) : aS k ≠ emp := fun e => by
  have := aS_size k
  rw [e] at this
  have h0 : emp.size = 0 := rfl
  omega
def rot (n r i : Nat) : Nat := if i + r < n then i + r else i + r - n
def unrot (n r j : Nat) : Nat := if r ≤ j then j - r else j + n - r
theorem rot_lt {n r i : Nat} (hr : r < n) (hi : i < n) : rot n r i < n := by unfold rot; split <;> omega
theorem unrot_lt {n r i : Nat} (hr : r < n) (hi : i < n) : unrot n r i < n := by unfold unrot; split <;> omega
theorem unrot_rot {n r i : Nat} (hr : r < n) (hi : i < n) : unrot n r (rot n r i) = i := by unfold unrot rot; split <;> split <;> omega
theorem rot_unrot {n r i : Nat} (hr : r < n) (hi : i < n) : rot n r (unrot n r i) = i := by unfold unrot rot; split <;> split <;> omega
theorem rot_mod {n r i : Nat} (hr : r < n) (hi : i < n) : (i + r) % n = rot n r i := by
  unfold rot
  split
  · rename_i h; exact Nat.mod_eq_of_lt h
  · rename_i h
    rw [Nat.mod_eq_sub_mod (by omega), Nat.mod_eq_of_lt (by omega)]

def rg (n : Nat) (f : Nat → Ent) : List Ent := (List.range n).map f
theorem rg_len (n : Nat) (f : Nat → Ent) : (rg n f).length = n := by simp [rg]
theorem rg_get {n : Nat} {f : Nat → Ent} {j : Nat} (h : j < (rg n f).length) : (rg n f)[j] = f j := by simp [rg]
theorem rg_getD {n : Nat} {f : Nat → Ent} {j : Nat} (h : j < n) (d : Ent) : (rg n f).getD j d = f j := by simp [rg, h]
theorem rg_set {n : Nat} {f g : Nat → Ent} {k : Nat} {x : Ent} (hk : g k = x) (h : ∀ j, j ≠ k → g j = f j) : (rg n f).set k x = rg n g := by
  apply List.ext_getElem
  · simp [rg]
  · intro i h1 h2
    rw [List.getElem_set]
    split
    · rename_i e; subst e; rw [rg_get]; exact hk.symm
    · rename_i e; rw [rg_get, rg_get, h i (Ne.symm e)]
theorem rg_congr {n : Nat} {f g : Nat → Ent} (h : ∀ j, j < n → f j = g j) : rg n f = rg n g := by
  unfold rg
  exact List.map_congr_left fun j hj => h j (List.mem_range.1 hj)
theorem rg_succ (n : Nat) (f : Nat → Ent) : rg n f ++ [f n] = rg (n + 1) f := by simp [rg, List.range_succ]

def E1 (i : Nat) : List Ent := rg i fun j => (aS (j + 1), 1)
def E2 (n r i : Nat) : List Ent := rg n fun j => if unrot n r j < i then (emp, 0) else (aS (j + 1), 1)
def E3 (n r i : Nat) : List Ent := rg n fun j => if j < i then (aS (1 + rot n r j), 1) else (emp, 0)
theorem take1 {i : Nat} (hi : i < 50) : takeS (E1 i) (aS (i + 1)) = ((i, 0), E1 (i + 1)) := by
  have hl : (E1 i).length = i := rg_len _ _
  have h1 : ∀ j (hj : j < (E1 i).length), ((E1 i)[j]).1 = aS (j + 1) := fun j hj => by
    have := rg_get (f := fun j => (aS (j + 1), 1)) hj
    exact congrArg Prod.fst this
  have hf : findS (E1 i) (aS (i + 1)) = none := findS_no fun j hj => by
    rw [h1 j hj]
    exact aS_ne (by omega)
  have hlf : leastF (E1 i) = i := leastF_of (by omega) (fun hn => by omega) fun j hj => by
    rw [h1 j (by omega)]
    exact aS_emp (by omega)
  have hlv : ¬ 65536 ≤ liveN (E1 i) := by have := liveN_le (E1 i); omega
  unfold takeS
  rw [if_neg (by rw [aS_size]; omega), hf]
  simp only [if_neg hlv, hlf, hl, if_true]
  rw [show E1 i ++ [(aS (i + 1), 1)] = E1 (i + 1) from rg_succ i _]
theorem drop2 {n r i : Nat} (hr : r < n) (hi : i < n) : dropS (E2 n r i) (rot n r i : Nat) = (0, E2 n r (i + 1)) := by
  have hk := rot_lt hr hi
  have hu := unrot_rot hr hi
  have hg : (E2 n r i)[rot n r i]? = some (aS (rot n r i + 1), 1) := by
    have hl : rot n r i < (E2 n r i).length := by unfold E2; rw [rg_len]; exact hk
    rw [List.getElem?_eq_getElem hl]
    unfold E2 at hl ⊢
    rw [rg_get, hu, if_neg (Nat.lt_irrefl i)]
  have hh : hasS (E2 n r i) (rot n r i : Nat) = true := by
    unfold hasS
    rw [Int.toNat_natCast, hg]
    simp [liveB, aS_emp]
  unfold dropS
  rw [if_pos hh, Int.toNat_natCast, List.getD_eq_getElem?_getD, hg]
  simp only [Option.getD_some, if_true]
  rw [show (E2 n r i).set (rot n r i) (emp, 0) = E2 n r (i + 1) from ?_]
  unfold E2
  apply List.ext_getElem
  · simp [rg]
  · intro j h1 h2
    have hj : j < n := by rw [List.length_set, rg_len] at h1; exact h1
    rw [List.getElem_set, rg_get, rg_get]
    split
    · rename_i e
      subst e
      rw [hu, if_pos (Nat.lt_succ_self i)]
    · rename_i e
      have hne : unrot n r j ≠ i := fun e2 => e (by rw [← e2, rot_unrot hr hj])
      by_cases h3 : unrot n r j < i
      · rw [if_pos h3, if_pos (by omega)]
      · rw [if_neg h3, if_neg (by omega)]
theorem E2_0 {n r : Nat} : E2 n r 0 = E1 n := rg_congr fun j _ => by rw [if_neg (Nat.not_lt_zero _)]
theorem E2_n {n r : Nat} (hr : 0 < n → r < n) : E2 n r n = E3 n r 0 := rg_congr fun j hj => by rw [if_pos (unrot_lt (hr (by omega)) hj), if_neg (Nat.not_lt_zero _)]
theorem live3 (n r i : Nat) (hi : i ≤ n) : liveN (E3 n r i) = i := by
  have h1 : ∀ k, k ≤ n → liveN (rg k fun j => if j < i then (aS (1 + rot n r j), 1) else (emp, 0)) = min k i := by
    intro k
    induction k with
    | zero => intro _; simp [rg, liveN]
    | succ k ih =>
      intro hk
      rw [← rg_succ]
      unfold liveN at *
      rw [List.filter_append, List.length_append, ih (by omega)]
      by_cases h2 : k < i
      · have h3 : aS (1 + rot n r k) ≠ emp := aS_emp (by omega)
        simp [h2, liveB, h3]
        omega
      · simp [h2, liveB]
        omega
  have := h1 n (Nat.le_refl n)
  rw [Nat.min_eq_right hi] at this
  exact this
theorem take3 {n r i : Nat} (hr : r < n) (hi : i < n) (hn : n ≤ 50) : takeS (E3 n r i) (aS (1 + rot n r i)) = ((i, 0), E3 n r (i + 1)) := by
  have hl : (E3 n r i).length = n := rg_len _ _
  have h1 : ∀ j (hj : j < (E3 n r i).length), (E3 n r i)[j] = if j < i then (aS (1 + rot n r j), 1) else (emp, 0) := fun j hj => rg_get (f := fun j => if j < i then (aS (1 + rot n r j), 1) else (emp, 0)) hj
  have hri := rot_lt hr hi
  have hf : findS (E3 n r i) (aS (1 + rot n r i)) = none := findS_no fun j hj => by
    rw [h1 j hj]
    split
    · rename_i h2
      refine aS_ne fun e => ?_
      have e2 : rot n r j = rot n r i := by omega
      have := congrArg (unrot n r) e2
      rw [unrot_rot hr (by omega), unrot_rot hr hi] at this
      omega
    · exact (aS_emp (by omega)).symm
  have hlf : leastF (E3 n r i) = i := leastF_of (by omega) (fun h => by rw [h1, if_neg (Nat.lt_irrefl i)]) fun j hj => by
    rw [h1 j (by omega), if_pos hj]
    exact aS_emp (by omega)
  have hlv : ¬ 65536 ≤ liveN (E3 n r i) := by have := liveN_le (E3 n r i); omega
  unfold takeS
  rw [if_neg (by rw [aS_size]; omega), hf]
  simp only [if_neg hlv, hlf, hl, if_neg (show ¬ i = n by omega)]
  rw [show (E3 n r i).set i (aS (1 + rot n r i), 1) = E3 n r (i + 1) from ?_]
  refine rg_set ?_ fun j hj => ?_
  · rw [if_pos (Nat.lt_succ_self i)]
  · by_cases h2 : j < i
    · rw [if_pos h2, if_pos (by omega)]
    · rw [if_neg h2, if_neg (by omega)]
theorem E1_uses {i : Nat} : ∀ e ∈ E1 i, e.2 ≤ 100000 := fun e he => by
  obtain ⟨j, _, rfl⟩ := List.mem_map.1 he
  show 1 ≤ 100000
  decide
theorem if_uses {p : Prop} [Decidable p] {a b : Ent} (h1 : a.2 ≤ 100000) (h2 : b.2 ≤ 100000) : (if p then a else b).2 ≤ 100000 := by
  split
  · exact h1
  · exact h2
theorem E2_uses {n r i : Nat} : ∀ e ∈ E2 n r i, e.2 ≤ 100000 := fun e he => by
  obtain ⟨j, _, rfl⟩ := List.mem_map.1 he
  exact if_uses (Nat.zero_le _) (show 1 ≤ 100000 by decide)
theorem E3_uses {n r i : Nat} : ∀ e ∈ E3 n r i, e.2 ≤ 100000 := fun e he => by
  obtain ⟨j, _, rfl⟩ := List.mem_map.1 he
  exact if_uses (show 1 ≤ 100000 by decide) (Nat.zero_le _)

theorem lowF_of {b i j : Nat} {x y z : Int} {s : Nat} (h : b < i) : lowF i j [(0, iA x), (1, iA y), (5, .ptr b 0), (s, iA z)] = true := by
  simp only [lowF, low, Bool.and_true, Bool.true_and, Nat.blt_eq]
  exact h
theorem again_does (n0 turn : Int) : Does Try.prog 3 [iA n0, iA turn] (fun m => (bA true, m)) := by
  obtain ⟨n, hn⟩ : ∃ n : Nat, pickN n0 50 = (n : Int) := ⟨(pickN n0 50).toNat, by have := pickN_in n0 (show (1 : Int) ≤ 50 by decide); omega⟩
  have hn50 : n < 50 := by have := pickN_in n0 (show (1 : Int) ≤ 50 by decide); omega
  have cL := lives_does
  have cP := pick_does n0 50 (by decide)
  rw [hn] at cP
  obtain ⟨mA, b, SA, cA, tA, kA⟩ := new_gives wf0
  have z0 : ((0 : Nat) : Int) = 0 := rfl
  refine does_of' Try.func3 rfl (by kernel_rfl) rfl Try.ntmps3 rfl rfl fun Q hQ => ?_
  repeat (first
      | refine tr_seq_k fun _ _ => ?_
      | (refine tr_region ?_; simp only [go_sem, List.getElem?_toArray, str_beq, reduceCtorEq, Nat.reduceEqDiff, Nat.reduceLT, Nat.reduceLeDiff, Nat.reduceAdd, Nat.reduceMul, Nat.reduceSub, Nat.reduceBEq, ↓reduceIte, bne_self_eq_false, Bool.and_false, Bool.false_and, Bool.true_or, Bool.false_or])
      | (refine call_of (cL) ?_ ?_
         · first | rfl | simp only [go_sem, List.getElem?_toArray, str_beq, reduceCtorEq, Nat.reduceEqDiff, Nat.reduceLT, Nat.reduceLeDiff, Nat.reduceAdd, Nat.reduceMul, Nat.reduceSub, Nat.reduceBEq, ↓reduceIte, bne_self_eq_false, Bool.and_false, Bool.false_and, Bool.true_or, Bool.false_or, shut_col]
         simp only [go_sem, List.getElem?_toArray, str_beq, reduceCtorEq, Nat.reduceEqDiff, Nat.reduceLT, Nat.reduceLeDiff, Nat.reduceAdd, Nat.reduceMul, Nat.reduceSub, Nat.reduceBEq, ↓reduceIte, bne_self_eq_false, Bool.and_false, Bool.false_and, Bool.true_or, Bool.false_or])
      | refine k_of (by assumption) ?_
      | refine tr_block ?_
      | refine tr_scope ?_
      | (refine tr_skip ?_; try simp only [ex_seq, ex_block])
      | (refine tr_label ?_; try simp only [ex_seq, ex_block])
      | (refine tr_exit ?_; try simp only [ex_seq_exit, ex_block_exit, Nat.reduceEqDiff, if_true, if_false, ex_seq, ex_block, reduceCtorEq, ↓reduceIte])
      | (refine tr_ret ?_; try simp only [ex_seq_ret, ex_block_ret]))
  refine tr_cond rfl (fun ht => ?_) (fun hf => ?_)
  · cases ht
  · repeat (first
        | refine tr_seq_k fun _ _ => ?_
        | (refine tr_region ?_; simp only [go_sem, List.getElem?_toArray, str_beq, reduceCtorEq, Nat.reduceEqDiff, Nat.reduceLT, Nat.reduceLeDiff, Nat.reduceAdd, Nat.reduceMul, Nat.reduceSub, Nat.reduceBEq, ↓reduceIte, bne_self_eq_false, Bool.and_false, Bool.false_and, Bool.true_or, Bool.false_or])
        | (refine call_of (cP) ?_ ?_
           · first | rfl | simp only [go_sem, List.getElem?_toArray, str_beq, reduceCtorEq, Nat.reduceEqDiff, Nat.reduceLT, Nat.reduceLeDiff, Nat.reduceAdd, Nat.reduceMul, Nat.reduceSub, Nat.reduceBEq, ↓reduceIte, bne_self_eq_false, Bool.and_false, Bool.false_and, Bool.true_or, Bool.false_or, shut_col]
           simp only [go_sem, List.getElem?_toArray, str_beq, reduceCtorEq, Nat.reduceEqDiff, Nat.reduceLT, Nat.reduceLeDiff, Nat.reduceAdd, Nat.reduceMul, Nat.reduceSub, Nat.reduceBEq, ↓reduceIte, bne_self_eq_false, Bool.and_false, Bool.false_and, Bool.true_or, Bool.false_or])
        | (refine call_givesW (cA) ?_; (try dsimp only); (try simp only [go_sem, List.getElem?_toArray, str_beq, reduceCtorEq, Nat.reduceEqDiff, Nat.reduceLT, Nat.reduceLeDiff, Nat.reduceAdd, Nat.reduceMul, Nat.reduceSub, Nat.reduceBEq, ↓reduceIte, bne_self_eq_false, Bool.and_false, Bool.false_and, Bool.true_or, Bool.false_or]))
        | refine k_of (by assumption) ?_
        | refine tr_block ?_
        | refine tr_scope ?_
        | (refine tr_skip ?_; try simp only [ex_seq, ex_block])
        | (refine tr_label ?_; try simp only [ex_seq, ex_block])
        | (refine tr_exit ?_; try simp only [ex_seq_exit, ex_block_exit, Nat.reduceEqDiff, if_true, if_false, ex_seq, ex_block, reduceCtorEq, ↓reduceIte])
        | (refine tr_ret ?_; try simp only [ex_seq_ret, ex_block_ret]))
    refine tr_loop_k (σ := Mm × List Nat × Nat) (fun q => [(0, iA n), (1, iA turn), (5, .ptr b 0), (6, iA q.2.2)]) (fun q => q.1)
      (fun q => TabM q.1 b (E1 q.2.2) q.2.1 ∧ Wf q.1 ∧ q.2.2 ≤ n ∧ mA.hp.length ≤ q.1.hp.length ∧ q.1.hw = mA.hw) (fun q => n - q.2.2) (mA, SA, 0) ⟨tA, kA.wf, Nat.zero_le _, Nat.le_refl _, rfl⟩ ⟨rfl, rfl, rfl, rfl, trivial⟩ rfl ?_
    rintro ⟨m, S, i⟩ ⟨t1, w1, hi, hl1, hh1⟩ K hK
    dsimp only at t1 w1 hi hl1 hh1 hK
    by_cases hlt : i < n
    · have d1 : decide ((i : Int) < (n : Nat)) = true := decide_eq_true (by omega)
      have ws := wrap_succ (show i ≤ 1000000000 by omega)
      have cT := times_does (s := ⟨#[97]⟩) (n := i + 1) (by show 1 * (i + 1) ≤ _; omega) (by omega)
      obtain ⟨m', S', c1, t2, k2⟩ := take_tab t1 w1 (aS (i + 1)) (by unfold E1; rw [rg_len]; omega) E1_uses
      rw [take1 (by omega)] at c1 t2
      have c1 : GivesW Try.prog 10 [.ptr b 0, sA (repS ⟨#[97]⟩ (i + 1))] m (.tup [iA (i : Nat), iA 0]) m' := c1
      repeat (first
          | refine tr_seq_k fun _ _ => ?_
          | (refine tr_region ?_; simp only [go_sem, List.getElem?_toArray, str_beq, reduceCtorEq, Nat.reduceEqDiff, Nat.reduceLT, Nat.reduceLeDiff, Nat.reduceAdd, Nat.reduceMul, Nat.reduceSub, Nat.reduceBEq, ↓reduceIte, bne_self_eq_false, Bool.and_false, Bool.false_and, Bool.true_or, Bool.false_or, d1, ws])
          | refine k_of (by assumption) ?_
          | refine tr_block ?_
          | refine tr_scope ?_
          | (refine tr_skip ?_; try simp only [ex_seq, ex_block])
          | (refine tr_label ?_; try simp only [ex_seq, ex_block])
          | (refine tr_exit ?_; try simp only [ex_seq_exit, ex_block_exit, Nat.reduceEqDiff, if_true, if_false, ex_seq, ex_block, reduceCtorEq, ↓reduceIte])
          | (refine tr_ret ?_; try simp only [ex_seq_ret, ex_block_ret]))
      refine tr_cond rfl (fun ht => ?_) (fun hf => ?_)
      · repeat (first
            | refine tr_seq_k fun _ _ => ?_
            | (refine tr_region ?_; simp only [go_sem, List.getElem?_toArray, str_beq, reduceCtorEq, Nat.reduceEqDiff, Nat.reduceLT, Nat.reduceLeDiff, Nat.reduceAdd, Nat.reduceMul, Nat.reduceSub, Nat.reduceBEq, ↓reduceIte, bne_self_eq_false, Bool.and_false, Bool.false_and, Bool.true_or, Bool.false_or, d1, ws])
            | (refine call_of (cT) ?_ ?_
               · first | rfl | simp only [go_sem, List.getElem?_toArray, str_beq, reduceCtorEq, Nat.reduceEqDiff, Nat.reduceLT, Nat.reduceLeDiff, Nat.reduceAdd, Nat.reduceMul, Nat.reduceSub, Nat.reduceBEq, ↓reduceIte, bne_self_eq_false, Bool.and_false, Bool.false_and, Bool.true_or, Bool.false_or, d1, ws, shut_col]
               simp only [go_sem, List.getElem?_toArray, str_beq, reduceCtorEq, Nat.reduceEqDiff, Nat.reduceLT, Nat.reduceLeDiff, Nat.reduceAdd, Nat.reduceMul, Nat.reduceSub, Nat.reduceBEq, ↓reduceIte, bne_self_eq_false, Bool.and_false, Bool.false_and, Bool.true_or, Bool.false_or, d1, ws])
            | (refine call_givesW (c1) ?_; (try dsimp only); (try simp only [go_sem, List.getElem?_toArray, str_beq, reduceCtorEq, Nat.reduceEqDiff, Nat.reduceLT, Nat.reduceLeDiff, Nat.reduceAdd, Nat.reduceMul, Nat.reduceSub, Nat.reduceBEq, ↓reduceIte, bne_self_eq_false, Bool.and_false, Bool.false_and, Bool.true_or, Bool.false_or, d1, ws]))
            | refine k_of (by assumption) ?_
            | refine tr_block ?_
            | refine tr_scope ?_
            | (refine tr_skip ?_; try simp only [ex_seq, ex_block])
            | (refine tr_label ?_; try simp only [ex_seq, ex_block])
            | (refine tr_exit ?_; try simp only [ex_seq_exit, ex_block_exit, Nat.reduceEqDiff, if_true, if_false, ex_seq, ex_block, reduceCtorEq, ↓reduceIte])
            | (refine tr_ret ?_; try simp only [ex_seq_ret, ex_block_ret]))
        refine tr_cond rfl (fun ht => ?_) (fun hf => ?_)
        · cases ht
        · repeat (first
              | refine tr_seq_k fun _ _ => ?_
              | (refine tr_region ?_; simp only [go_sem, List.getElem?_toArray, str_beq, reduceCtorEq, Nat.reduceEqDiff, Nat.reduceLT, Nat.reduceLeDiff, Nat.reduceAdd, Nat.reduceMul, Nat.reduceSub, Nat.reduceBEq, ↓reduceIte, bne_self_eq_false, Bool.and_false, Bool.false_and, Bool.true_or, Bool.false_or, ws])
              | refine k_of (by assumption) ?_
              | refine tr_block ?_
              | refine tr_scope ?_
              | (refine tr_skip ?_; try simp only [ex_seq, ex_block])
              | (refine tr_label ?_; try simp only [ex_seq, ex_block])
              | (refine tr_exit ?_; try simp only [ex_seq_exit, ex_block_exit, Nat.reduceEqDiff, if_true, if_false, ex_seq, ex_block, reduceCtorEq, ↓reduceIte])
              | (refine tr_ret ?_; try simp only [ex_seq_ret, ex_block_ret]))
          exact hK (m', S', i + 1) _ _ ⟨t2, k2.wf, hlt, Nat.le_trans hl1 k2.len, k2.hw.trans hh1⟩ ⟨⟨rfl, rfl, rfl, rfl, trivial⟩, Keep.refl _, lowF_of t2.lt, k2.wf, Nat.le_trans hl1 k2.len, by dsimp only; rw [k2.hw, hh1]; exact Nat.le_refl _⟩ (by dsimp only; omega)
      · cases hf
    · have d1 : decide ((i : Int) < (n : Nat)) = false := decide_eq_false (by omega)
      obtain rfl : i = n := by omega
      obtain ⟨r, hr, hrn⟩ : ∃ r : Nat, (0 < i → pickN turn i = (r : Int)) ∧ (0 < i → r < i) := ⟨(pickN turn i).toNat, fun h => by have := pickN_in turn (show (1 : Int) ≤ i by omega); omega, fun h => by have := pickN_in turn (show (1 : Int) ≤ i by omega); omega⟩
      generalize hi0 : i = n at *
      rw [← E2_0 (r := r)] at t1
      repeat (first
          | refine tr_seq_k fun _ _ => ?_
          | (refine tr_region ?_; simp only [go_sem, List.getElem?_toArray, str_beq, reduceCtorEq, Nat.reduceEqDiff, Nat.reduceLT, Nat.reduceLeDiff, Nat.reduceAdd, Nat.reduceMul, Nat.reduceSub, Nat.reduceBEq, ↓reduceIte, bne_self_eq_false, Bool.and_false, Bool.false_and, Bool.true_or, Bool.false_or, d1])
          | refine k_of (by assumption) ?_
          | refine tr_block ?_
          | refine tr_scope ?_
          | (refine tr_skip ?_; try simp only [ex_seq, ex_block])
          | (refine tr_label ?_; try simp only [ex_seq, ex_block])
          | (refine tr_exit ?_; try simp only [ex_seq_exit, ex_block_exit, Nat.reduceEqDiff, if_true, if_false, ex_seq, ex_block, reduceCtorEq, ↓reduceIte])
          | (refine tr_ret ?_; try simp only [ex_seq_ret, ex_block_ret]))
      refine tr_cond rfl (fun ht => ?_) (fun hf => ?_)
      · cases ht
      · repeat (first
            | refine tr_seq_k fun _ _ => ?_
            | (refine tr_region ?_; simp only [go_sem, List.getElem?_toArray, str_beq, reduceCtorEq, Nat.reduceEqDiff, Nat.reduceLT, Nat.reduceLeDiff, Nat.reduceAdd, Nat.reduceMul, Nat.reduceSub, Nat.reduceBEq, ↓reduceIte, bne_self_eq_false, Bool.and_false, Bool.false_and, Bool.true_or, Bool.false_or])
            | refine k_of (by assumption) ?_
            | refine tr_block ?_
            | refine tr_scope ?_
            | (refine tr_skip ?_; try simp only [ex_seq, ex_block])
            | (refine tr_label ?_; try simp only [ex_seq, ex_block])
            | (refine tr_exit ?_; try simp only [ex_seq_exit, ex_block_exit, Nat.reduceEqDiff, if_true, if_false, ex_seq, ex_block, reduceCtorEq, ↓reduceIte])
            | (refine tr_ret ?_; try simp only [ex_seq_ret, ex_block_ret]))
        refine tr_loop_k (σ := Mm × List Nat × Nat) (fun q => [(0, iA n), (1, iA turn), (5, .ptr b 0), (9, iA q.2.2)]) (fun q => q.1)
          (fun q => TabM q.1 b (E2 n r q.2.2) q.2.1 ∧ Wf q.1 ∧ q.2.2 ≤ n ∧ m.hp.length ≤ q.1.hp.length ∧ q.1.hw = m.hw) (fun q => n - q.2.2) (m, S, 0) ⟨t1, w1, Nat.zero_le _, Nat.le_refl _, rfl⟩ ⟨rfl, rfl, rfl, rfl, trivial⟩ rfl ?_
        rintro ⟨m2, S2, j⟩ ⟨t2, w2, hj, hl2, hh2⟩ K2 hK2
        dsimp only at t2 w2 hj hl2 hh2 hK2
        by_cases hlt : j < n
        · have d2 : decide ((j : Int) < (n : Nat)) = true := decide_eq_true (by omega)
          have hr := hr (by omega)
          have hrn := hrn (by omega)
          have ws := wrap_succ (show j ≤ 1000000000 by omega)
          have cP := pick_does turn n (by omega)
          rw [hr] at cP
          have wa : IntKind.i64.wrap ((j : Int) + (r : Nat)) = ((j + r : Nat) : Int) := by rw [wrap_in (by omega)]; omega
          have hq : ¬ (((n : Nat) : Int) = 0) := by omega
          have wt : ((j + r : Nat) : Int).tmod (n : Nat) = ((rot n r j : Nat) : Int) := by
            rw [Int.tmod_eq_emod_of_nonneg (by omega), ← rot_mod hrn hlt]
            rfl
          obtain ⟨m', S', c1, t3, k3⟩ := drop_tab t2 w2 (rot n r j : Nat) (by unfold E2; rw [rg_len]; omega) E2_uses
          rw [drop2 hrn hlt] at c1 t3
          repeat (first
              | refine tr_seq_k fun _ _ => ?_
              | (refine tr_region ?_; simp only [go_sem, List.getElem?_toArray, str_beq, reduceCtorEq, Nat.reduceEqDiff, Nat.reduceLT, Nat.reduceLeDiff, Nat.reduceAdd, Nat.reduceMul, Nat.reduceSub, Nat.reduceBEq, ↓reduceIte, bne_self_eq_false, Bool.and_false, Bool.false_and, Bool.true_or, Bool.false_or, d2])
              | refine k_of (by assumption) ?_
              | refine tr_block ?_
              | refine tr_scope ?_
              | (refine tr_skip ?_; try simp only [ex_seq, ex_block])
              | (refine tr_label ?_; try simp only [ex_seq, ex_block])
              | (refine tr_exit ?_; try simp only [ex_seq_exit, ex_block_exit, Nat.reduceEqDiff, if_true, if_false, ex_seq, ex_block, reduceCtorEq, ↓reduceIte])
              | (refine tr_ret ?_; try simp only [ex_seq_ret, ex_block_ret]))
          refine tr_cond rfl (fun ht => ?_) (fun hf => ?_)
          · repeat (first
                | refine tr_seq_k fun _ _ => ?_
                | (refine tr_region ?_; simp only [go_sem, List.getElem?_toArray, str_beq, reduceCtorEq, Nat.reduceEqDiff, Nat.reduceLT, Nat.reduceLeDiff, Nat.reduceAdd, Nat.reduceMul, Nat.reduceSub, Nat.reduceBEq, ↓reduceIte, bne_self_eq_false, Bool.and_false, Bool.false_and, Bool.true_or, Bool.false_or, d2, wa, hq, wt])
                | (refine call_of (cP) ?_ ?_
                   · first | rfl | simp only [go_sem, List.getElem?_toArray, str_beq, reduceCtorEq, Nat.reduceEqDiff, Nat.reduceLT, Nat.reduceLeDiff, Nat.reduceAdd, Nat.reduceMul, Nat.reduceSub, Nat.reduceBEq, ↓reduceIte, bne_self_eq_false, Bool.and_false, Bool.false_and, Bool.true_or, Bool.false_or, d2, wa, hq, wt, shut_col]
                   simp only [go_sem, List.getElem?_toArray, str_beq, reduceCtorEq, Nat.reduceEqDiff, Nat.reduceLT, Nat.reduceLeDiff, Nat.reduceAdd, Nat.reduceMul, Nat.reduceSub, Nat.reduceBEq, ↓reduceIte, bne_self_eq_false, Bool.and_false, Bool.false_and, Bool.true_or, Bool.false_or, d2, wa, hq, wt])
                | (refine call_givesW (c1) ?_; (try dsimp only); (try simp only [go_sem, List.getElem?_toArray, str_beq, reduceCtorEq, Nat.reduceEqDiff, Nat.reduceLT, Nat.reduceLeDiff, Nat.reduceAdd, Nat.reduceMul, Nat.reduceSub, Nat.reduceBEq, ↓reduceIte, bne_self_eq_false, Bool.and_false, Bool.false_and, Bool.true_or, Bool.false_or, d2, wa, hq, wt]))
                | refine k_of (by assumption) ?_
                | refine tr_block ?_
                | refine tr_scope ?_
                | (refine tr_skip ?_; try simp only [ex_seq, ex_block])
                | (refine tr_label ?_; try simp only [ex_seq, ex_block])
                | (refine tr_exit ?_; try simp only [ex_seq_exit, ex_block_exit, Nat.reduceEqDiff, if_true, if_false, ex_seq, ex_block, reduceCtorEq, ↓reduceIte])
                | (refine tr_ret ?_; try simp only [ex_seq_ret, ex_block_ret]))
            refine tr_cond rfl (fun ht => ?_) (fun hf => ?_)
            · cases ht
            · repeat (first
                  | refine tr_seq_k fun _ _ => ?_
                  | (refine tr_region ?_; simp only [go_sem, List.getElem?_toArray, str_beq, reduceCtorEq, Nat.reduceEqDiff, Nat.reduceLT, Nat.reduceLeDiff, Nat.reduceAdd, Nat.reduceMul, Nat.reduceSub, Nat.reduceBEq, ↓reduceIte, bne_self_eq_false, Bool.and_false, Bool.false_and, Bool.true_or, Bool.false_or, ws])
                  | refine k_of (by assumption) ?_
                  | refine tr_block ?_
                  | refine tr_scope ?_
                  | (refine tr_skip ?_; try simp only [ex_seq, ex_block])
                  | (refine tr_label ?_; try simp only [ex_seq, ex_block])
                  | (refine tr_exit ?_; try simp only [ex_seq_exit, ex_block_exit, Nat.reduceEqDiff, if_true, if_false, ex_seq, ex_block, reduceCtorEq, ↓reduceIte])
                  | (refine tr_ret ?_; try simp only [ex_seq_ret, ex_block_ret]))
              exact hK2 (m', S', j + 1) _ _ ⟨t3, k3.wf, hlt, Nat.le_trans hl2 k3.len, k3.hw.trans hh2⟩ ⟨⟨rfl, rfl, rfl, rfl, trivial⟩, Keep.refl _, lowF_of t3.lt, k3.wf, Nat.le_trans hl2 k3.len, by dsimp only; rw [k3.hw, hh2]; exact Nat.le_refl _⟩ (by dsimp only; omega)
          · cases hf
        · have d2 : decide ((j : Int) < (n : Nat)) = false := decide_eq_false (by omega)
          obtain rfl : j = n := by omega
          rw [E2_n hrn] at t2
          have cl := len_tab t2
          rw [live3 _ _ _ (Nat.zero_le _)] at cl
          repeat (first
              | refine tr_seq_k fun _ _ => ?_
              | (refine tr_region ?_; simp only [go_sem, List.getElem?_toArray, str_beq, reduceCtorEq, Nat.reduceEqDiff, Nat.reduceLT, Nat.reduceLeDiff, Nat.reduceAdd, Nat.reduceMul, Nat.reduceSub, Nat.reduceBEq, ↓reduceIte, bne_self_eq_false, Bool.and_false, Bool.false_and, Bool.true_or, Bool.false_or, d2])
              | refine k_of (by assumption) ?_
              | refine tr_block ?_
              | refine tr_scope ?_
              | (refine tr_skip ?_; try simp only [ex_seq, ex_block])
              | (refine tr_label ?_; try simp only [ex_seq, ex_block])
              | (refine tr_exit ?_; try simp only [ex_seq_exit, ex_block_exit, Nat.reduceEqDiff, if_true, if_false, ex_seq, ex_block, reduceCtorEq, ↓reduceIte])
              | (refine tr_ret ?_; try simp only [ex_seq_ret, ex_block_ret]))
          refine tr_cond rfl (fun ht => ?_) (fun hf => ?_)
          · cases ht
          · repeat (first
                | refine tr_seq_k fun _ _ => ?_
                | (refine tr_region ?_; simp only [go_sem, List.getElem?_toArray, str_beq, reduceCtorEq, Nat.reduceEqDiff, Nat.reduceLT, Nat.reduceLeDiff, Nat.reduceAdd, Nat.reduceMul, Nat.reduceSub, Nat.reduceBEq, ↓reduceIte, bne_self_eq_false, Bool.and_false, Bool.false_and, Bool.true_or, Bool.false_or, z0])
                | (refine call_givesW (cl) ?_; (try dsimp only); (try simp only [go_sem, List.getElem?_toArray, str_beq, reduceCtorEq, Nat.reduceEqDiff, Nat.reduceLT, Nat.reduceLeDiff, Nat.reduceAdd, Nat.reduceMul, Nat.reduceSub, Nat.reduceBEq, ↓reduceIte, bne_self_eq_false, Bool.and_false, Bool.false_and, Bool.true_or, Bool.false_or, z0]))
                | refine k_of (by assumption) ?_
                | refine tr_block ?_
                | refine tr_scope ?_
                | (refine tr_skip ?_; try simp only [ex_seq, ex_block])
                | (refine tr_label ?_; try simp only [ex_seq, ex_block])
                | (refine tr_exit ?_; try simp only [ex_seq_exit, ex_block_exit, Nat.reduceEqDiff, if_true, if_false, ex_seq, ex_block, reduceCtorEq, ↓reduceIte])
                | (refine tr_ret ?_; try simp only [ex_seq_ret, ex_block_ret]))
            refine tr_cond rfl (fun ht => ?_) (fun hf => ?_)
            · cases ht
            · repeat (first
                  | refine tr_seq_k fun _ _ => ?_
                  | (refine tr_region ?_; simp only [go_sem, List.getElem?_toArray, str_beq, reduceCtorEq, Nat.reduceEqDiff, Nat.reduceLT, Nat.reduceLeDiff, Nat.reduceAdd, Nat.reduceMul, Nat.reduceSub, Nat.reduceBEq, ↓reduceIte, bne_self_eq_false, Bool.and_false, Bool.false_and, Bool.true_or, Bool.false_or])
                  | refine k_of (by assumption) ?_
                  | refine tr_block ?_
                  | refine tr_scope ?_
                  | (refine tr_skip ?_; try simp only [ex_seq, ex_block])
                  | (refine tr_label ?_; try simp only [ex_seq, ex_block])
                  | (refine tr_exit ?_; try simp only [ex_seq_exit, ex_block_exit, Nat.reduceEqDiff, if_true, if_false, ex_seq, ex_block, reduceCtorEq, ↓reduceIte])
                  | (refine tr_ret ?_; try simp only [ex_seq_ret, ex_block_ret]))
              refine tr_loop_k (σ := Mm × List Nat × Nat) (fun q => [(0, iA j), (1, iA turn), (5, .ptr b 0), (10, iA q.2.2)]) (fun q => q.1)
                (fun q => TabM q.1 b (E3 j r q.2.2) q.2.1 ∧ Wf q.1 ∧ q.2.2 ≤ j ∧ m2.hp.length ≤ q.1.hp.length ∧ q.1.hw = m2.hw) (fun q => j - q.2.2) (m2, S2, 0) ⟨t2, w2, Nat.zero_le _, Nat.le_refl _, rfl⟩ ⟨rfl, rfl, rfl, rfl, trivial⟩ rfl ?_
              rintro ⟨m3, S3, k⟩ ⟨t3, w3, hk, hl3, hh3⟩ K3 hK3
              dsimp only at t3 w3 hk hl3 hh3 hK3
              by_cases hlt : k < j
              · have d3 : decide ((k : Int) < (j : Nat)) = true := decide_eq_true (by omega)
                have hr := hr (by omega)
                have hrn := hrn (by omega)
                have ws := wrap_succ (show k ≤ 1000000000 by omega)
                have cP := pick_does turn j (by omega)
                rw [hr] at cP
                have wa : IntKind.i64.wrap ((k : Int) + (r : Nat)) = ((k + r : Nat) : Int) := by rw [wrap_in (by omega)]; omega
                have hq : ¬ (((j : Nat) : Int) = 0) := by omega
                have hrk := rot_lt hrn hlt
                have wt : ((k + r : Nat) : Int).tmod (j : Nat) = ((rot j r k : Nat) : Int) := by
                  rw [Int.tmod_eq_emod_of_nonneg (by omega), ← rot_mod hrn hlt]
                  rfl
                have w1 : IntKind.i64.wrap (1 + ((rot j r k : Nat) : Int)) = ((1 + rot j r k : Nat) : Int) := by rw [wrap_in (by omega)]; omega
                have cT := times_does (s := ⟨#[97]⟩) (n := 1 + rot j r k) (by show 1 * (1 + rot j r k) ≤ _; omega) (by omega)
                obtain ⟨m', S', c1, t4, k4⟩ := take_tab t3 w3 (aS (1 + rot j r k)) (by unfold E3; rw [rg_len]; omega) E3_uses
                rw [take3 hrn hlt (by omega)] at c1 t4
                have c1 : GivesW Try.prog 10 [.ptr b 0, sA (repS ⟨#[97]⟩ (1 + rot j r k))] m3 (.tup [iA (k : Nat), iA 0]) m' := c1
                repeat (first
                    | refine tr_seq_k fun _ _ => ?_
                    | (refine tr_region ?_; simp only [go_sem, List.getElem?_toArray, str_beq, reduceCtorEq, Nat.reduceEqDiff, Nat.reduceLT, Nat.reduceLeDiff, Nat.reduceAdd, Nat.reduceMul, Nat.reduceSub, Nat.reduceBEq, ↓reduceIte, bne_self_eq_false, Bool.and_false, Bool.false_and, Bool.true_or, Bool.false_or, d3])
                    | refine k_of (by assumption) ?_
                    | refine tr_block ?_
                    | refine tr_scope ?_
                    | (refine tr_skip ?_; try simp only [ex_seq, ex_block])
                    | (refine tr_label ?_; try simp only [ex_seq, ex_block])
                    | (refine tr_exit ?_; try simp only [ex_seq_exit, ex_block_exit, Nat.reduceEqDiff, if_true, if_false, ex_seq, ex_block, reduceCtorEq, ↓reduceIte])
                    | (refine tr_ret ?_; try simp only [ex_seq_ret, ex_block_ret]))
                refine tr_cond rfl (fun ht => ?_) (fun hf => ?_)
                · repeat (first
                      | refine tr_seq_k fun _ _ => ?_
                      | (refine tr_region ?_; simp only [go_sem, List.getElem?_toArray, str_beq, reduceCtorEq, Nat.reduceEqDiff, Nat.reduceLT, Nat.reduceLeDiff, Nat.reduceAdd, Nat.reduceMul, Nat.reduceSub, Nat.reduceBEq, ↓reduceIte, bne_self_eq_false, Bool.and_false, Bool.false_and, Bool.true_or, Bool.false_or, d3, wa, hq, wt, w1])
                      | (refine call_of (cP) ?_ ?_
                         · first | rfl | simp only [go_sem, List.getElem?_toArray, str_beq, reduceCtorEq, Nat.reduceEqDiff, Nat.reduceLT, Nat.reduceLeDiff, Nat.reduceAdd, Nat.reduceMul, Nat.reduceSub, Nat.reduceBEq, ↓reduceIte, bne_self_eq_false, Bool.and_false, Bool.false_and, Bool.true_or, Bool.false_or, d3, wa, hq, wt, w1, shut_col]
                         simp only [go_sem, List.getElem?_toArray, str_beq, reduceCtorEq, Nat.reduceEqDiff, Nat.reduceLT, Nat.reduceLeDiff, Nat.reduceAdd, Nat.reduceMul, Nat.reduceSub, Nat.reduceBEq, ↓reduceIte, bne_self_eq_false, Bool.and_false, Bool.false_and, Bool.true_or, Bool.false_or, d3, wa, hq, wt, w1])
                      | (refine call_of (cT) ?_ ?_
                         · first | rfl | simp only [go_sem, List.getElem?_toArray, str_beq, reduceCtorEq, Nat.reduceEqDiff, Nat.reduceLT, Nat.reduceLeDiff, Nat.reduceAdd, Nat.reduceMul, Nat.reduceSub, Nat.reduceBEq, ↓reduceIte, bne_self_eq_false, Bool.and_false, Bool.false_and, Bool.true_or, Bool.false_or, d3, wa, hq, wt, w1, shut_col]
                         simp only [go_sem, List.getElem?_toArray, str_beq, reduceCtorEq, Nat.reduceEqDiff, Nat.reduceLT, Nat.reduceLeDiff, Nat.reduceAdd, Nat.reduceMul, Nat.reduceSub, Nat.reduceBEq, ↓reduceIte, bne_self_eq_false, Bool.and_false, Bool.false_and, Bool.true_or, Bool.false_or, d3, wa, hq, wt, w1])
                      | (refine call_givesW (c1) ?_; (try dsimp only); (try simp only [go_sem, List.getElem?_toArray, str_beq, reduceCtorEq, Nat.reduceEqDiff, Nat.reduceLT, Nat.reduceLeDiff, Nat.reduceAdd, Nat.reduceMul, Nat.reduceSub, Nat.reduceBEq, ↓reduceIte, bne_self_eq_false, Bool.and_false, Bool.false_and, Bool.true_or, Bool.false_or, d3, wa, hq, wt, w1]))
                      | refine k_of (by assumption) ?_
                      | refine tr_block ?_
                      | refine tr_scope ?_
                      | (refine tr_skip ?_; try simp only [ex_seq, ex_block])
                      | (refine tr_label ?_; try simp only [ex_seq, ex_block])
                      | (refine tr_exit ?_; try simp only [ex_seq_exit, ex_block_exit, Nat.reduceEqDiff, if_true, if_false, ex_seq, ex_block, reduceCtorEq, ↓reduceIte])
                      | (refine tr_ret ?_; try simp only [ex_seq_ret, ex_block_ret]))
                  refine tr_cond rfl (fun ht => ?_) (fun hf => ?_)
                  · cases ht
                  · repeat (first
                        | refine tr_seq_k fun _ _ => ?_
                        | (refine tr_region ?_; simp only [go_sem, List.getElem?_toArray, str_beq, reduceCtorEq, Nat.reduceEqDiff, Nat.reduceLT, Nat.reduceLeDiff, Nat.reduceAdd, Nat.reduceMul, Nat.reduceSub, Nat.reduceBEq, ↓reduceIte, bne_self_eq_false, Bool.and_false, Bool.false_and, Bool.true_or, Bool.false_or, ws])
                        | refine k_of (by assumption) ?_
                        | refine tr_block ?_
                        | refine tr_scope ?_
                        | (refine tr_skip ?_; try simp only [ex_seq, ex_block])
                        | (refine tr_label ?_; try simp only [ex_seq, ex_block])
                        | (refine tr_exit ?_; try simp only [ex_seq_exit, ex_block_exit, Nat.reduceEqDiff, if_true, if_false, ex_seq, ex_block, reduceCtorEq, ↓reduceIte])
                        | (refine tr_ret ?_; try simp only [ex_seq_ret, ex_block_ret]))
                    exact hK3 (m', S', k + 1) _ _ ⟨t4, k4.wf, hlt, Nat.le_trans hl3 k4.len, k4.hw.trans hh3⟩ ⟨⟨rfl, rfl, rfl, rfl, trivial⟩, Keep.refl _, lowF_of t4.lt, k4.wf, Nat.le_trans hl3 k4.len, by dsimp only; rw [k4.hw, hh3]; exact Nat.le_refl _⟩ (by dsimp only; omega)
                · cases hf
              · have d3 : decide ((k : Int) < (j : Nat)) = false := decide_eq_false (by omega)
                obtain rfl : k = j := by omega
                have cl := len_tab t3
                rw [live3 _ _ _ (Nat.le_refl _)] at cl
                repeat (first
                    | refine tr_seq_k fun _ _ => ?_
                    | (refine tr_region ?_; simp only [go_sem, List.getElem?_toArray, str_beq, reduceCtorEq, Nat.reduceEqDiff, Nat.reduceLT, Nat.reduceLeDiff, Nat.reduceAdd, Nat.reduceMul, Nat.reduceSub, Nat.reduceBEq, ↓reduceIte, bne_self_eq_false, Bool.and_false, Bool.false_and, Bool.true_or, Bool.false_or, d3])
                    | refine k_of (by assumption) ?_
                    | refine tr_block ?_
                    | refine tr_scope ?_
                    | (refine tr_skip ?_; try simp only [ex_seq, ex_block])
                    | (refine tr_label ?_; try simp only [ex_seq, ex_block])
                    | (refine tr_exit ?_; try simp only [ex_seq_exit, ex_block_exit, Nat.reduceEqDiff, if_true, if_false, ex_seq, ex_block, reduceCtorEq, ↓reduceIte])
                    | (refine tr_ret ?_; try simp only [ex_seq_ret, ex_block_ret]))
                refine tr_cond rfl (fun ht => ?_) (fun hf => ?_)
                · cases ht
                · repeat (first
                      | refine tr_seq_k fun _ _ => ?_
                      | (refine tr_region ?_; simp only [go_sem, List.getElem?_toArray, str_beq, reduceCtorEq, Nat.reduceEqDiff, Nat.reduceLT, Nat.reduceLeDiff, Nat.reduceAdd, Nat.reduceMul, Nat.reduceSub, Nat.reduceBEq, ↓reduceIte, bne_self_eq_false, Bool.and_false, Bool.false_and, Bool.true_or, Bool.false_or])
                      | (refine call_givesW (cl) ?_; (try dsimp only); (try simp only [go_sem, List.getElem?_toArray, str_beq, reduceCtorEq, Nat.reduceEqDiff, Nat.reduceLT, Nat.reduceLeDiff, Nat.reduceAdd, Nat.reduceMul, Nat.reduceSub, Nat.reduceBEq, ↓reduceIte, bne_self_eq_false, Bool.and_false, Bool.false_and, Bool.true_or, Bool.false_or]))
                      | refine k_of (by assumption) ?_
                      | refine tr_block ?_
                      | refine tr_scope ?_
                      | (refine tr_skip ?_; try simp only [ex_seq, ex_block])
                      | (refine tr_label ?_; try simp only [ex_seq, ex_block])
                      | (refine tr_exit ?_; try simp only [ex_seq_exit, ex_block_exit, Nat.reduceEqDiff, if_true, if_false, ex_seq, ex_block, reduceCtorEq, ↓reduceIte])
                      | (refine tr_ret ?_; try simp only [ex_seq_ret, ex_block_ret]))
                  refine (hQ _ _ [bA true] ?_ (fun m => ?_)).2 <;> simp only [go_sem, List.getElem?_toArray, str_beq, reduceCtorEq, Nat.reduceEqDiff, Nat.reduceLT, Nat.reduceLeDiff, Nat.reduceAdd, Nat.reduceMul, Nat.reduceSub, Nat.reduceBEq, ↓reduceIte, bne_self_eq_false, Bool.and_false, Bool.false_and, Bool.true_or, Bool.false_or, Try.f3,]
end Go.Proofs.Ytlhlcfijpdknfaa

namespace Go.Proofs.Ytlhlcfijpdknfaa.again
open Go.ChangeShapes Go.WideShapes Go.ChangeAt Go.RowKit Go.Vs Go.Vs.Ab

theorem own : ownKnob Try.prog.godebug = none := by kernel_rfl
theorem laidOut : laidOutB Try.prog = true := by kernel_rfl
theorem readable : (Try.f3.params.toList.all fun t => Try.prog.readableRec t && decide (t < Try.prog.types.size)) = true := by kernel_rfl

set_option maxRecDepth 100000 in
theorem lifted (os : Os) (started : os.Started) (H : Type) (enc : TypeId × Value → H) :
    ReturnsInHanded {} Try.checked os 3 .any (Rows.internAgainSpec.pre6 enc Try.prog Try.f3 Rows.internAgainRow.domain false) (Rows.internAgainSpec.post enc Try.prog Try.f3 false true false false) := by
  refine returnsInHanded_of_change (C := Try.checked) own started (by kernel_rfl) Try.func3
    (ChangeSpec.witness6 (enc := enc) (C := Try.checked) false ⟨#[], #[.int .i64 0, .int .i64 0], []⟩ 8 (by kernel_rfl) (by kernel_rfl) (by kernel_rfl) (by kernel_rfl)) ?_
  intro W base args ds gs before hval0 hW hcnd _
  have hval : ∀ (j : Nat) t v, Try.f3.params[j]? = some t → args[j]? = some v → Value.okWide Try.prog W .any base t v := hval0
  have hW' := hW
  obtain ⟨p, q, hA0, hV, rfl, hfz, hnd⟩ := hW
  have hA : DataW.TrodAll enc Try.prog W 0 (fun _ => true) true Try.f3.params.toList args.toList ds p := hA0
  rw [Try.params3] at hA hval
  obtain ⟨v0, vs0, d0, ds0, p0, q0, hargs, rfl, rfl, h0, r0⟩ := trodAll_cons hA
  obtain ⟨v1, vs1, d1, ds1, p1, q1, rfl, rfl, rfl, h1, r1⟩ := trodAll_cons r0
  obtain ⟨rfl, rfl, rfl⟩ := trodAll_nil r1
  obtain rfl : args = #[v0, v1] := by cases args; simp_all
  obtain ⟨rfl, rfl⟩ := trodVars_none hV
  obtain ⟨a0, R0, _⟩ := open_i64 Try.underlying3 (hval 0 3 v0 rfl rfl) h0
  obtain ⟨a1, R1, _⟩ := open_i64 Try.underlying3 (hval 1 3 v1 rfl rfl) h1
  refine ((again_does a0 a1).bool (Reps.cons R0 (Reps.cons R1 Reps.nil))).mono fun e W' ⟨he, hb⟩ => ?_
  subst he
  refine ⟨_, rfl, law_post (tb := 4) hW' rfl rfl laidOut (fun t ht => ?_) rfl Try.underlying4 hb⟩
  have := List.all_eq_true.1 readable t ht
  simp only [Bool.and_eq_true, decide_eq_true_eq] at this
  exact this

theorem holds : Rows.InternAgainSaid :=
  OpenClaim.holds_of_wide 3 Try.f3 rfl rfl rfl rfl rfl rfl rfl ⟨rfl, rfl, rfl, rfl, rfl⟩ rfl rfl rfl rfl rfl (by kernel_rfl) Try.func3 (by kernel_rfl)
    (of_decide_eq_true (by kernel_rfl)) (by unfold Func.isWrapper; first | (rw [if_pos (by decide +kernel)]; kernel_rfl) | (rw [if_neg (by decide +kernel)]; exact ⟨rfl, rfl⟩))
    (fun os started H enc _ => lifted os started H enc)
#print axioms holds
end Go.Proofs.Ytlhlcfijpdknfaa.again
