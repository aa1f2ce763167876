/-
  Part 2 of the proof's own texts: general lemmas and contracts of functions, laid one behind the other.
-/
import Derived.Test.YtlhlcfijpdknfaaInternScriptm1
/-
  Chapter 2: Take.
-/
set_option linter.unusedSimpArgs false
set_option linter.unusedVariables false
namespace Go.Proofs.Ytlhlcfijpdknfaa
open Go.Vs Go.Vs.Ab Go.Vs.Hp Go.Vs.Tb
set_option maxRecDepth 100000
set_option maxHeartbeats 4000000

/-- The memory with another block in a place. -/
def setB (m : Mm) (i : Nat) (nb : Blk) : Mm := ⟨m.hp.set i nb, m.hw⟩
theorem setB_self {m : Mm} {i : Nat} (h : i < m.hp.length) (nb : Blk) : (setB m i nb).hp[i]? = some nb := List.getElem?_set_self h
theorem setB_ne {m : Mm} {i j : Nat} (h : i ≠ j) (nb : Blk) : (setB m i nb).hp[j]? = m.hp[j]? := List.getElem?_set_ne h
theorem setB_len (m : Mm) (i : Nat) (nb : Blk) : (setB m i nb).hp.length = m.hp.length := List.length_set
theorem Kp.stB {m : Mm} (hW : Wf m) {i : Nat} {S : List Nat} (hi : i ∈ S) {nb : Blk} (hl : lows m.hp.length m.hw.length nb.cs = true) : Kp m (setB m i nb) S S :=
  ⟨rfl, by rw [setB_len]; exact Nat.le_refl _, fun j blk hj h => by rw [setB_ne (fun (e : i = j) => hj (e ▸ hi))]; exact h, fun j hj => Or.inl hj, hW.set hl⟩
theorem setB_eq (m : Mm) (i : Nat) (nb : Blk) : (⟨m.hp.set i nb, m.hw⟩ : Mm) = setB m i nb := rfl
theorem setB_hp (m : Mm) (i : Nat) (nb : Blk) : m.hp.set i nb = (setB m i nb).hp := rfl

theorem emp_size (s : ByteArray) : s = emp ↔ s.size < 1 := by
  constructor
  · rintro rfl
    decide
  · intro h
    cases s with
    | mk a =>
      have : a.size = 0 := by
        have : (ByteArray.mk a).size = a.size := rfl
        omega
      rw [Array.eq_empty_of_size_eq_zero this]
      rfl
theorem liveN_le (E : List Ent) : liveN E ≤ E.length := List.length_filter_le ..
theorem take_set {T : Type} {E L : List T} (h : E = L.take E.length) {k : Nat} (hk : k < E.length) (x : T) : E.set k x = (L.set k x).take (E.set k x).length := by
  rw [List.length_set, List.take_set, ← h]

theorem nd_last {b mb h : Nat} {s1 : List Nat} (hnd : (b :: mb :: (s1 ++ [h])).Nodup) : h ≠ b ∧ h ≠ mb ∧ h ∉ s1 := by
  refine ⟨fun e => ?_, fun e => ?_, fun e => ?_⟩
  · subst e; simp at hnd
  · subst e; simp at hnd
  · rw [List.nodup_cons, List.nodup_cons, List.nodup_append] at hnd
    exact hnd.2.2.2.2 h e h (by simp) rfl
theorem take_bad {m : Mm} {b : Nat} {E : List Ent} {S : List Nat} (h : TabM m b E S) {s : ByteArray} (hs : s.size < 1 ∨ 255 < s.size) : GivesW Try.prog 10 [.ptr b 0, sA s] m (.tup [iA 0, iA 2]) m := by
  cases h1 : decide (s = ⟨#[]⟩) with
  | true =>
    refine givesW_of' Try.func10 rfl (by kernel_rfl) Try.ntmps10 rfl rfl fun Q hQ => ?_
    repeat (first
        | refine tr_seq_k fun _ _ => ?_
        | (refine tr_region ?_; simp only [go_sem, List.getElem?_toArray, str_beq, reduceCtorEq, Nat.reduceEqDiff, Nat.reduceLT, Nat.reduceLeDiff, Nat.reduceAdd, Nat.reduceMul, Nat.reduceSub, Nat.reduceBEq, ↓reduceIte, bne_self_eq_false, Bool.and_false, Bool.false_and, Bool.true_or, Bool.false_or, h1])
        | (refine tr_drawS (id := 15) follows 14 [.op 14, .put 15] (by kernel_rfl) ?_; simp only [go_sem, List.getElem?_toArray, str_beq, reduceCtorEq, Nat.reduceEqDiff, Nat.reduceLT, Nat.reduceLeDiff, Nat.reduceAdd, Nat.reduceMul, Nat.reduceSub, Nat.reduceBEq, ↓reduceIte, bne_self_eq_false, Bool.and_false, Bool.false_and, Bool.true_or, Bool.false_or, h1])
        | refine k_of (by assumption) ?_
        | refine tr_block ?_
        | refine tr_scope ?_
        | (refine tr_skip ?_; try simp only [ex_seq, ex_block])
        | (refine tr_label ?_; try simp only [ex_seq, ex_block])
        | (refine tr_exit ?_; try simp only [ex_seq_exit, ex_block_exit, Nat.reduceEqDiff, if_true, if_false, ex_seq, ex_block, reduceCtorEq, ↓reduceIte])
        | (refine tr_ret ?_; try simp only [ex_seq_ret, ex_block_ret]))
    refine tr_cond rfl (fun ht => ?_) (fun hf => ?_)
    · cases ht
    · repeat (first
          | refine tr_seq_k fun _ _ => ?_
          | (refine tr_region ?_; simp only [go_sem, List.getElem?_toArray, str_beq, reduceCtorEq, Nat.reduceEqDiff, Nat.reduceLT, Nat.reduceLeDiff, Nat.reduceAdd, Nat.reduceMul, Nat.reduceSub, Nat.reduceBEq, ↓reduceIte, bne_self_eq_false, Bool.and_false, Bool.false_and, Bool.true_or, Bool.false_or, h1])
          | (refine tr_drawS (id := 15) follows 14 [.op 14, .put 15] (by kernel_rfl) ?_; simp only [go_sem, List.getElem?_toArray, str_beq, reduceCtorEq, Nat.reduceEqDiff, Nat.reduceLT, Nat.reduceLeDiff, Nat.reduceAdd, Nat.reduceMul, Nat.reduceSub, Nat.reduceBEq, ↓reduceIte, bne_self_eq_false, Bool.and_false, Bool.false_and, Bool.true_or, Bool.false_or, h1])
          | refine k_of (by assumption) ?_
          | refine tr_block ?_
          | refine tr_scope ?_
          | (refine tr_skip ?_; try simp only [ex_seq, ex_block])
          | (refine tr_label ?_; try simp only [ex_seq, ex_block])
          | (refine tr_exit ?_; try simp only [ex_seq_exit, ex_block_exit, Nat.reduceEqDiff, if_true, if_false, ex_seq, ex_block, reduceCtorEq, ↓reduceIte])
          | (refine tr_ret ?_; try simp only [ex_seq_ret, ex_block_ret]))
      refine tr_cond rfl (fun ht => ?_) (fun hf => ?_)
      · repeat (first
            | refine tr_seq_k fun _ _ => ?_
            | (refine tr_region ?_; simp only [go_sem, List.getElem?_toArray, str_beq, reduceCtorEq, Nat.reduceEqDiff, Nat.reduceLT, Nat.reduceLeDiff, Nat.reduceAdd, Nat.reduceMul, Nat.reduceSub, Nat.reduceBEq, ↓reduceIte, bne_self_eq_false, Bool.and_false, Bool.false_and, Bool.true_or, Bool.false_or])
            | (refine tr_drawS (id := 15) follows 14 [.op 14, .put 15] (by kernel_rfl) ?_; simp only [go_sem, List.getElem?_toArray, str_beq, reduceCtorEq, Nat.reduceEqDiff, Nat.reduceLT, Nat.reduceLeDiff, Nat.reduceAdd, Nat.reduceMul, Nat.reduceSub, Nat.reduceBEq, ↓reduceIte, bne_self_eq_false, Bool.and_false, Bool.false_and, Bool.true_or, Bool.false_or])
            | refine k_of (by assumption) ?_
            | refine tr_block ?_
            | refine tr_scope ?_
            | (refine tr_skip ?_; try simp only [ex_seq, ex_block])
            | (refine tr_label ?_; try simp only [ex_seq, ex_block])
            | (refine tr_exit ?_; try simp only [ex_seq_exit, ex_block_exit, Nat.reduceEqDiff, if_true, if_false, ex_seq, ex_block, reduceCtorEq, ↓reduceIte])
            | (refine tr_ret ?_; try simp only [ex_seq_ret, ex_block_ret]))
        refine (hQ _ _ [iA 0, iA 2] ?_ rfl rfl).2 <;> simp only [go_sem, List.getElem?_toArray, str_beq, reduceCtorEq, Nat.reduceEqDiff, Nat.reduceLT, Nat.reduceLeDiff, Nat.reduceAdd, Nat.reduceMul, Nat.reduceSub, Nat.reduceBEq, ↓reduceIte, bne_self_eq_false, Bool.and_false, Bool.false_and, Bool.true_or, Bool.false_or, Try.f10]
      · cases hf
  | false =>
    have h2 : decide ((255 : Int) < (s.size : Nat)) = true := decide_eq_true (by
      rcases hs with hs | hs
      · exact absurd ((emp_size s).2 hs) (of_decide_eq_false h1)
      · omega)
    refine givesW_of' Try.func10 rfl (by kernel_rfl) Try.ntmps10 rfl rfl fun Q hQ => ?_
    repeat (first
        | refine tr_seq_k fun _ _ => ?_
        | (refine tr_region ?_; simp only [go_sem, List.getElem?_toArray, str_beq, reduceCtorEq, Nat.reduceEqDiff, Nat.reduceLT, Nat.reduceLeDiff, Nat.reduceAdd, Nat.reduceMul, Nat.reduceSub, Nat.reduceBEq, ↓reduceIte, bne_self_eq_false, Bool.and_false, Bool.false_and, Bool.true_or, Bool.false_or, h1, h2])
        | (refine tr_drawS (id := 15) follows 14 [.op 14, .put 15] (by kernel_rfl) ?_; simp only [go_sem, List.getElem?_toArray, str_beq, reduceCtorEq, Nat.reduceEqDiff, Nat.reduceLT, Nat.reduceLeDiff, Nat.reduceAdd, Nat.reduceMul, Nat.reduceSub, Nat.reduceBEq, ↓reduceIte, bne_self_eq_false, Bool.and_false, Bool.false_and, Bool.true_or, Bool.false_or, h1, h2])
        | refine k_of (by assumption) ?_
        | refine tr_block ?_
        | refine tr_scope ?_
        | (refine tr_skip ?_; try simp only [ex_seq, ex_block])
        | (refine tr_label ?_; try simp only [ex_seq, ex_block])
        | (refine tr_exit ?_; try simp only [ex_seq_exit, ex_block_exit, Nat.reduceEqDiff, if_true, if_false, ex_seq, ex_block, reduceCtorEq, ↓reduceIte])
        | (refine tr_ret ?_; try simp only [ex_seq_ret, ex_block_ret]))
    refine tr_cond rfl (fun ht => ?_) (fun hf => ?_)
    · cases ht
    · repeat (first
          | refine tr_seq_k fun _ _ => ?_
          | (refine tr_region ?_; simp only [go_sem, List.getElem?_toArray, str_beq, reduceCtorEq, Nat.reduceEqDiff, Nat.reduceLT, Nat.reduceLeDiff, Nat.reduceAdd, Nat.reduceMul, Nat.reduceSub, Nat.reduceBEq, ↓reduceIte, bne_self_eq_false, Bool.and_false, Bool.false_and, Bool.true_or, Bool.false_or, h1, h2])
          | (refine tr_drawS (id := 15) follows 14 [.op 14, .put 15] (by kernel_rfl) ?_; simp only [go_sem, List.getElem?_toArray, str_beq, reduceCtorEq, Nat.reduceEqDiff, Nat.reduceLT, Nat.reduceLeDiff, Nat.reduceAdd, Nat.reduceMul, Nat.reduceSub, Nat.reduceBEq, ↓reduceIte, bne_self_eq_false, Bool.and_false, Bool.false_and, Bool.true_or, Bool.false_or, h1, h2])
          | refine k_of (by assumption) ?_
          | refine tr_block ?_
          | refine tr_scope ?_
          | (refine tr_skip ?_; try simp only [ex_seq, ex_block])
          | (refine tr_label ?_; try simp only [ex_seq, ex_block])
          | (refine tr_exit ?_; try simp only [ex_seq_exit, ex_block_exit, Nat.reduceEqDiff, if_true, if_false, ex_seq, ex_block, reduceCtorEq, ↓reduceIte])
          | (refine tr_ret ?_; try simp only [ex_seq_ret, ex_block_ret]))
      refine tr_cond rfl (fun ht => ?_) (fun hf => ?_)
      · repeat (first
            | refine tr_seq_k fun _ _ => ?_
            | (refine tr_region ?_; simp only [go_sem, List.getElem?_toArray, str_beq, reduceCtorEq, Nat.reduceEqDiff, Nat.reduceLT, Nat.reduceLeDiff, Nat.reduceAdd, Nat.reduceMul, Nat.reduceSub, Nat.reduceBEq, ↓reduceIte, bne_self_eq_false, Bool.and_false, Bool.false_and, Bool.true_or, Bool.false_or])
            | (refine tr_drawS (id := 15) follows 14 [.op 14, .put 15] (by kernel_rfl) ?_; simp only [go_sem, List.getElem?_toArray, str_beq, reduceCtorEq, Nat.reduceEqDiff, Nat.reduceLT, Nat.reduceLeDiff, Nat.reduceAdd, Nat.reduceMul, Nat.reduceSub, Nat.reduceBEq, ↓reduceIte, bne_self_eq_false, Bool.and_false, Bool.false_and, Bool.true_or, Bool.false_or])
            | refine k_of (by assumption) ?_
            | refine tr_block ?_
            | refine tr_scope ?_
            | (refine tr_skip ?_; try simp only [ex_seq, ex_block])
            | (refine tr_label ?_; try simp only [ex_seq, ex_block])
            | (refine tr_exit ?_; try simp only [ex_seq_exit, ex_block_exit, Nat.reduceEqDiff, if_true, if_false, ex_seq, ex_block, reduceCtorEq, ↓reduceIte])
            | (refine tr_ret ?_; try simp only [ex_seq_ret, ex_block_ret]))
        refine (hQ _ _ [iA 0, iA 2] ?_ rfl rfl).2 <;> simp only [go_sem, List.getElem?_toArray, str_beq, reduceCtorEq, Nat.reduceEqDiff, Nat.reduceLT, Nat.reduceLeDiff, Nat.reduceAdd, Nat.reduceMul, Nat.reduceSub, Nat.reduceBEq, ↓reduceIte, bne_self_eq_false, Bool.and_false, Bool.false_and, Bool.true_or, Bool.false_or, Try.f10]
      · cases hf

theorem take_found {m : Mm} {b : Nat} {E : List Ent} {S : List Nat} (h : TabM m b E S) (hW : Wf m) {s : ByteArray} {n : Nat} (hs : ¬ (s.size < 1 ∨ 255 < s.size)) (hf : findS E s = some n) (hU : ∀ e ∈ E, e.2 ≤ 100000) :
    ∃ m', GivesW Try.prog 10 [.ptr b 0, sA s] m (.tup [iA (n : Nat), iA 0]) m' ∧ TabM m' b (E.set n (s, (E.getD n (emp, 0)).2 + 1)) S ∧ Kp m m' S S := by
  obtain ⟨c1, c2, mb, F, N, s1, s2, hb, hF, hE, hN, hI, hS, hnd⟩ := h
  have h1 : decide (s = ⟨#[]⟩) = false := decide_eq_false (fun e => hs (Or.inl ((emp_size s).1 e)))
  have h2 : decide ((255 : Int) < (s.size : Nat)) = false := decide_eq_false (by omega)
  obtain ⟨hse, hn, u, hu⟩ := findS_some hf
  obtain ⟨k, hlk, _⟩ := nmI_some und_str hI.nnd ((hI.find s n).2 hf) (nmI N).isEmpty
  have p1 := hF.plain1
  obtain ⟨h, L, rfl, hs2, hL, hEL, hkL, hg⟩ := row_get hE hn
  have he : E[n] = (s, u) := (List.getElem?_eq_some_iff.1 hu).2
  have hg1 : (L[n]).1 = s := by rw [hg, he]
  have hub : (L[n]).2 ≤ 100000 := by rw [hg]; exact hU _ (List.getElem_mem hn)
  have i1 := en_idx (b := h) (n := E.length) hn
  have g1 := en_get1 hkL
  have w1 : IntKind.i64.wrap (((L[n]).2 : Nat) + 1) = (((L[n]).2 + 1 : Nat) : Int) := wrap_succ (by omega)
  have f1 := en_fit1 hkL
  have e1 := en_set1 hkL ((L[n]).2 + 1)
  subst hs2
  have hhl := (List.getElem?_eq_some_iff.1 hL).1
  have hhS : h ∈ S := by rw [hS]; simp
  have hk := Kp.stB (i := h) hW hhS (nb := ⟨false, blC enC (L.set n ((L[n]).1, (L[n]).2 + 1))⟩) lows_blC
  have hbS : h ≠ b ∧ h ≠ mb ∧ h ∉ s1 := nd_last (hS ▸ hnd)
  refine ⟨setB m h ⟨false, blC enC (L.set n ((L[n]).1, (L[n]).2 + 1))⟩, ?_, ?_, hk⟩
  · refine givesW_of' Try.func10 rfl (by kernel_rfl) Try.ntmps10 rfl rfl fun Q hQ => ?_
    repeat (first
        | refine tr_seq_k fun _ _ => ?_
        | (refine tr_region ?_; simp only [go_sem, List.getElem?_toArray, str_beq, reduceCtorEq, Nat.reduceEqDiff, Nat.reduceLT, Nat.reduceLeDiff, Nat.reduceAdd, Nat.reduceMul, Nat.reduceSub, Nat.reduceBEq, ↓reduceIte, bne_self_eq_false, Bool.and_false, Bool.false_and, Bool.true_or, Bool.false_or, h1, h2])
        | (refine tr_drawS (id := 15) follows 14 [.op 14, .put 15] (by kernel_rfl) ?_; simp only [go_sem, List.getElem?_toArray, str_beq, reduceCtorEq, Nat.reduceEqDiff, Nat.reduceLT, Nat.reduceLeDiff, Nat.reduceAdd, Nat.reduceMul, Nat.reduceSub, Nat.reduceBEq, ↓reduceIte, bne_self_eq_false, Bool.and_false, Bool.false_and, Bool.true_or, Bool.false_or, h1, h2])
        | refine k_of (by assumption) ?_
        | refine tr_block ?_
        | refine tr_scope ?_
        | (refine tr_skip ?_; try simp only [ex_seq, ex_block])
        | (refine tr_label ?_; try simp only [ex_seq, ex_block])
        | (refine tr_exit ?_; try simp only [ex_seq_exit, ex_block_exit, Nat.reduceEqDiff, if_true, if_false, ex_seq, ex_block, reduceCtorEq, ↓reduceIte])
        | (refine tr_ret ?_; try simp only [ex_seq_ret, ex_block_ret]))
    refine tr_cond rfl (fun ht => ?_) (fun hf => ?_)
    · cases ht
    · repeat (first
          | refine tr_seq_k fun _ _ => ?_
          | (refine tr_region ?_; simp only [go_sem, List.getElem?_toArray, str_beq, reduceCtorEq, Nat.reduceEqDiff, Nat.reduceLT, Nat.reduceLeDiff, Nat.reduceAdd, Nat.reduceMul, Nat.reduceSub, Nat.reduceBEq, ↓reduceIte, bne_self_eq_false, Bool.and_false, Bool.false_and, Bool.true_or, Bool.false_or, h1, h2])
          | (refine tr_drawS (id := 15) follows 14 [.op 14, .put 15] (by kernel_rfl) ?_; simp only [go_sem, List.getElem?_toArray, str_beq, reduceCtorEq, Nat.reduceEqDiff, Nat.reduceLT, Nat.reduceLeDiff, Nat.reduceAdd, Nat.reduceMul, Nat.reduceSub, Nat.reduceBEq, ↓reduceIte, bne_self_eq_false, Bool.and_false, Bool.false_and, Bool.true_or, Bool.false_or, h1, h2])
          | refine k_of (by assumption) ?_
          | refine tr_block ?_
          | refine tr_scope ?_
          | (refine tr_skip ?_; try simp only [ex_seq, ex_block])
          | (refine tr_label ?_; try simp only [ex_seq, ex_block])
          | (refine tr_exit ?_; try simp only [ex_seq_exit, ex_block_exit, Nat.reduceEqDiff, if_true, if_false, ex_seq, ex_block, reduceCtorEq, ↓reduceIte])
          | (refine tr_ret ?_; try simp only [ex_seq_ret, ex_block_ret]))
      refine tr_cond rfl (fun ht => ?_) (fun hf => ?_)
      · cases ht
      · repeat (first
            | refine tr_seq_k fun _ _ => ?_
            | (refine tr_region ?_; simp only [go_sem, List.getElem?_toArray, str_beq, reduceCtorEq, Nat.reduceEqDiff, Nat.reduceLT, Nat.reduceLeDiff, Nat.reduceAdd, Nat.reduceMul, Nat.reduceSub, Nat.reduceBEq, ↓reduceIte, bne_self_eq_false, Bool.and_false, Bool.false_and, Bool.true_or, Bool.false_or, hb, p1, hN, hlk])
            | (refine tr_drawS (id := 15) follows 14 [.op 14, .put 15] (by kernel_rfl) ?_; simp only [go_sem, List.getElem?_toArray, str_beq, reduceCtorEq, Nat.reduceEqDiff, Nat.reduceLT, Nat.reduceLeDiff, Nat.reduceAdd, Nat.reduceMul, Nat.reduceSub, Nat.reduceBEq, ↓reduceIte, bne_self_eq_false, Bool.and_false, Bool.false_and, Bool.true_or, Bool.false_or, hb, p1, hN, hlk])
            | refine k_of (by assumption) ?_
            | refine tr_block ?_
            | refine tr_scope ?_
            | (refine tr_skip ?_; try simp only [ex_seq, ex_block])
            | (refine tr_label ?_; try simp only [ex_seq, ex_block])
            | (refine tr_exit ?_; try simp only [ex_seq_exit, ex_block_exit, Nat.reduceEqDiff, if_true, if_false, ex_seq, ex_block, reduceCtorEq, ↓reduceIte])
            | (refine tr_ret ?_; try simp only [ex_seq_ret, ex_block_ret]))
        refine tr_cond rfl (fun ht => ?_) (fun hf => ?_)
        · repeat (first
              | refine tr_seq_k fun _ _ => ?_
              | (refine tr_region ?_; simp only [go_sem, List.getElem?_toArray, str_beq, reduceCtorEq, Nat.reduceEqDiff, Nat.reduceLT, Nat.reduceLeDiff, Nat.reduceAdd, Nat.reduceMul, Nat.reduceSub, Nat.reduceBEq, ↓reduceIte, bne_self_eq_false, Bool.and_false, Bool.false_and, Bool.true_or, Bool.false_or, hb, p1, hL, i1, g1, w1, f1, e1])
              | (refine tr_drawS (id := 15) follows 14 [.op 14, .put 15] (by kernel_rfl) ?_; simp only [go_sem, List.getElem?_toArray, str_beq, reduceCtorEq, Nat.reduceEqDiff, Nat.reduceLT, Nat.reduceLeDiff, Nat.reduceAdd, Nat.reduceMul, Nat.reduceSub, Nat.reduceBEq, ↓reduceIte, bne_self_eq_false, Bool.and_false, Bool.false_and, Bool.true_or, Bool.false_or, hb, p1, hL, i1, g1, w1, f1, e1])
              | refine k_of (by assumption) ?_
              | refine tr_block ?_
              | refine tr_scope ?_
              | (refine tr_skip ?_; try simp only [ex_seq, ex_block])
              | (refine tr_label ?_; try simp only [ex_seq, ex_block])
              | (refine tr_exit ?_; try simp only [ex_seq_exit, ex_block_exit, Nat.reduceEqDiff, if_true, if_false, ex_seq, ex_block, reduceCtorEq, ↓reduceIte])
              | (refine tr_ret ?_; try simp only [ex_seq_ret, ex_block_ret]))
          refine (hQ _ _ [iA (n : Nat), iA 0] ?_ rfl rfl).2 <;> simp only [go_sem, List.getElem?_toArray, str_beq, reduceCtorEq, Nat.reduceEqDiff, Nat.reduceLT, Nat.reduceLeDiff, Nat.reduceAdd, Nat.reduceMul, Nat.reduceSub, Nat.reduceBEq, ↓reduceIte, bne_self_eq_false, Bool.and_false, Bool.false_and, Bool.true_or, Bool.false_or, Try.f10]
        · cases hf
  · refine ⟨c1, .lsl h 0 E.length 2, mb, F, N, s1, [h], ?_, ?_, ?_, ?_, ?_, hS, hnd⟩
    · rw [setB_ne hbS.1]; exact hb
    · rcases hF with hF | ⟨h', L', q1, q2, q3, q4⟩
      · exact Or.inl hF
      · refine Or.inr ⟨h', L', q1, q2, ?_, q4⟩
        rw [setB_ne (fun e => hbS.2.2 (by rw [q2, e]; simp))]
        exact q3
    · refine Or.inr ⟨h, L.set n ((L[n]).1, (L[n]).2 + 1), by rw [List.length_set], rfl, setB_self hhl _, ?_⟩
      rw [getD_at hn, ← hg, ← hg1]
      exact take_set hEL hn _
    · rw [setB_ne hbS.2.1]; exact hN
    · exact hI.again hu hse (by omega)
end Go.Proofs.Ytlhlcfijpdknfaa

/-
  Chapter 2: Take of a text that is new.
-/
set_option linter.unusedSimpArgs false
set_option linter.unusedVariables false
namespace Go.Proofs.Ytlhlcfijpdknfaa
open Go.Vs Go.Vs.Ab Go.Vs.Hp Go.Vs.Tb
set_option maxRecDepth 100000
set_option maxHeartbeats 4000000

theorem len_row {m : Mm} {c : AV} {F : List Int} {s : List Nat} (h : RowAt m inC 1 c F s) : GivesW Try.prog 29 [c] m (iA (F.length : Nat)) m := by
  rcases h with ⟨rfl, rfl, _⟩ | ⟨h, L, rfl, _⟩
  · exact lenN_gives m
  · exact len_gives m h _
theorem build1E : aBuildSlice Try.prog 61 1 [(0, .agg [.v (.string ⟨#[]⟩), .v (.int .i64 0)])] = some [.v (.string ⟨#[]⟩), .v (.int .i64 0)] := build1 Try.underlying61 sz65 ze65 (by decide) (by decide) (by decide) rfl rfl
theorem info_en : info3 Try.prog 65 = some (2, 24) := by kernel_rfl
theorem nbeq_no (a b : Nat) : (Nat.beq a b = false) = ¬ (a = b) := by
  apply propext
  constructor
  · intro h e
    subst e
    rw [Nat.beq_refl] at h
    cases h
  · intro h
    cases h2 : Nat.beq a b with
    | false => rfl
    | true => exact absurd (Nat.eq_of_beq_eq_true h2) h
attribute [go_sem] build1E nbeq_no not_false_eq_true
theorem slV_row {m : Mm} {T : Type} {enc : T → List CV} {size : Nat} {c : AV} {l : List T} {s : List Nat} (h : RowAt m enc size c l s) : (∃ cs, slV c = some (l.length, cs) ∧ lsV c = none) ∨ ∃ b, lsV c = some (b, 0, l.length, size) ∧ slV c = none := by
  rcases h with ⟨rfl, rfl, _⟩ | ⟨b, L, rfl, _⟩
  · exact Or.inl ⟨[], rfl, rfl⟩
  · exact Or.inr ⟨b, rfl, rfl⟩

theorem nmI_app (N : List (ByteArray × Nat)) (s : ByteArray) (n : Nat) : nmI N ++ [(.string s, .int .i64 (n : Nat))] = nmI (N ++ [(s, n)]) := by simp [nmI, encE]
theorem Kp.put {m m1 : Mm} {S S' : List Nat} (h : Kp m m1 S S') {i : Nat} (hi : i ∈ S') {nb : Blk} (hl : lows m1.hp.length m1.hw.length nb.cs = true) : Kp m (setB m1 i nb) S S' := h.trans (Kp.stB h.wf hi hl)

theorem take_push {m : Mm} {b : Nat} {E : List Ent} {S : List Nat} {c1 c2 : AV} {mb : Nat} {F : List Int} {N : List (ByteArray × Nat)} {s1 s2 : List Nat} (hb : m.hp[b]? = some ⟨false, [c1, c2, .mapp mb]⟩) (hF : RowAt m inC 1 c1 F s1) (hE : RowAt m enC 2 c2 E s2) (hN : m.hp[mb]? = some ⟨false, [.ent (nmI N)]⟩) (hI : Inv F E N) (hS : S = b :: mb :: (s1 ++ s2)) (hnd : S.Nodup)
    (hW : Wf m) {s : ByteArray} (hs : ¬ (s.size < 1 ∨ 255 < s.size)) (hf : findS E s = none) (hM : E.length ≤ 1000) (h0 : F = []) :
    ∃ m' S', GivesW Try.prog 10 [.ptr b 0, sA s] m (.tup [iA (E.length : Nat), iA 0]) m' ∧ TabM m' b (E ++ [(s, 1)]) S' ∧ Kp m m' S S' := by
  have h1 : decide (s = ⟨#[]⟩) = false := decide_eq_false (fun e => hs (Or.inl ((emp_size s).1 e)))
  have h2 : decide ((255 : Int) < (s.size : Nat)) = false := decide_eq_false (by omega)
  have hse : s ≠ emp := fun e => hs (Or.inl ((emp_size s).1 e))
  have p1 := hF.plain1
  have hlk := nmI_none und_str ((hI.find_none s).2 hf)
  have hNl : N.length ≤ 1000 := by rw [hI.len]; exact Nat.le_trans (liveN_le E) hM
  have h3 : decide ((65536 : Int) ≤ (N.length : Nat)) = false := decide_eq_false (by omega)
  have cl := len_row hF
  have h4 : decide ((0 : Int) < (F.length : Nat)) = false := decide_eq_false (by rw [h0]; simp)
  obtain ⟨m1, ha, hn, hlen, hk⟩ := row_app (e := 65) en_hk (by decide) Try.underlying61 info_en hE hW (emp, 0) (ex := true) (by omega) (by unfold maxLen; omega)
  have ha' : aAppendL Try.prog m 61 c2 (.c (.sl true 1 [.v (.string ⟨#[]⟩), .v (.int .i64 0)])) = some (.lsl m.hp.length 0 (E.length + 1) 2, m1) := ha
  have hbl := (List.getElem?_eq_some_iff.1 hb).1
  have hmbl := (List.getElem?_eq_some_iff.1 hN).1
  generalize hh : m.hp.length = h at *
  subst hS
  have hbm : b ≠ mb ∧ b ∉ s1 ∧ b ∉ s2 ∧ mb ∉ s1 ∧ mb ∉ s2 ∧ ∀ i ∈ s1, i ∉ s2 := by
    simp only [List.nodup_cons, List.mem_cons, List.mem_append, not_or, List.nodup_append] at hnd
    exact ⟨hnd.1.1, hnd.1.2.1, hnd.1.2.2, hnd.2.1.1, hnd.2.1.2, fun i hi h2 => hnd.2.2.2.2 i hi i h2 rfl⟩
  have hb1 : m1.hp[b]? = some ⟨false, [c1, c2, .mapp mb]⟩ := hk.old b _ hbm.2.2.1 hb
  have hN1 : m1.hp[mb]? = some ⟨false, [.ent (nmI N)]⟩ := hk.old mb _ hbm.2.2.2.2.1 hN
  have hb1l := (List.getElem?_eq_some_iff.1 hb1).1
  have hm1l := (List.getElem?_eq_some_iff.1 hN1).1
  have hhl := (List.getElem?_eq_some_iff.1 hn).1
  -- the memory behind the append's store, the entry's, the map's
  have e2 := en_set (L := E ++ [(emp, 0)]) (k := E.length) (by simp) (s, 1)
  have e2' : List.take (E.length * 2) (blC enC (E ++ [(emp, 0)])) ++ [sA s, iA 1] ++ List.drop (E.length * 2 + 2) (blC enC (E ++ [(emp, 0)])) = blC enC (E ++ [(s, 1)]) := by
    have : (E ++ [(emp, 0)]).set E.length (s, 1) = E ++ [(s, 1)] := by simp
    rw [this] at e2
    exact e2
  have i1 := en_idx (b := h) (n := E.length + 1) (i := E.length) (by omega)
  have f1 := en_fit0 (L := E ++ [(emp, 0)]) (i := E.length) (by simp)
  have gb2 := setB_self hb1l (⟨false, [c1, .lsl h 0 (E.length + 1) 2, .mapp mb]⟩ : Blk)
  have gh2 : (setB m1 b ⟨false, [c1, .lsl h 0 (E.length + 1) 2, .mapp mb]⟩).hp[h]? = some ⟨false, blC enC (E ++ [(emp, 0)])⟩ := by rw [setB_ne (by omega)]; exact hn
  have hhl2 := (List.getElem?_eq_some_iff.1 gh2).1
  have gN3 : (setB (setB m1 b ⟨false, [c1, .lsl h 0 (E.length + 1) 2, .mapp mb]⟩) h ⟨false, blC enC (E ++ [(s, 1)])⟩).hp[mb]? = some ⟨false, [.ent (nmI N)]⟩ := by rw [setB_ne (by omega), setB_ne hbm.1]; exact hN1
  have gb3 : (setB (setB m1 b ⟨false, [c1, .lsl h 0 (E.length + 1) 2, .mapp mb]⟩) h ⟨false, blC enC (E ++ [(s, 1)])⟩).hp[b]? = some ⟨false, [c1, .lsl h 0 (E.length + 1) 2, .mapp mb]⟩ := by rw [setB_ne (by omega)]; exact gb2
  have gN2 : (setB m1 b ⟨false, [c1, .lsl h 0 (E.length + 1) 2, .mapp mb]⟩).hp[mb]? = some ⟨false, [.ent (nmI N)]⟩ := by rw [setB_ne hbm.1]; exact hN1
  have sl2 : ∀ l, slV c2 = some l → True := fun _ _ => trivial
  refine ⟨setB (setB (setB m1 b ⟨false, [c1, .lsl h 0 (E.length + 1) 2, .mapp mb]⟩) h ⟨false, blC enC (E ++ [(s, 1)])⟩) mb ⟨false, [.ent (nmI (N ++ [(s, E.length)]))]⟩, b :: mb :: (s1 ++ [h]), ?_, ?_, ?_⟩
  · rcases slV_row hE with ⟨cs, hv, hv2⟩ | ⟨b', hv, hv2⟩
    · refine givesW_of' Try.func10 rfl (by kernel_rfl) Try.ntmps10 rfl rfl fun Q hQ => ?_
      repeat (first
          | refine tr_seq_k fun _ _ => ?_
          | (refine tr_region ?_; simp only [go_sem, List.getElem?_toArray, str_beq, reduceCtorEq, Nat.reduceEqDiff, Nat.reduceLT, Nat.reduceLeDiff, Nat.reduceAdd, Nat.reduceMul, Nat.reduceSub, Nat.reduceBEq, ↓reduceIte, bne_self_eq_false, Bool.and_false, Bool.false_and, Bool.true_or, Bool.false_or, h1, h2])
          | (refine tr_drawS (id := 15) follows 14 [.op 14, .put 15] (by kernel_rfl) ?_; simp only [go_sem, List.getElem?_toArray, str_beq, reduceCtorEq, Nat.reduceEqDiff, Nat.reduceLT, Nat.reduceLeDiff, Nat.reduceAdd, Nat.reduceMul, Nat.reduceSub, Nat.reduceBEq, ↓reduceIte, bne_self_eq_false, Bool.and_false, Bool.false_and, Bool.true_or, Bool.false_or, h1, h2])
          | refine k_of (by assumption) ?_
          | refine tr_block ?_
          | refine tr_scope ?_
          | (refine tr_skip ?_; try simp only [ex_seq, ex_block])
          | (refine tr_label ?_; try simp only [ex_seq, ex_block])
          | (refine tr_exit ?_; try simp only [ex_seq_exit, ex_block_exit, Nat.reduceEqDiff, if_true, if_false, ex_seq, ex_block, reduceCtorEq, ↓reduceIte])
          | (refine tr_ret ?_; try simp only [ex_seq_ret, ex_block_ret]))
      refine tr_cond rfl (fun ht => ?_) (fun hf => ?_)
      · cases ht
      · repeat (first
            | refine tr_seq_k fun _ _ => ?_
            | (refine tr_region ?_; simp only [go_sem, List.getElem?_toArray, str_beq, reduceCtorEq, Nat.reduceEqDiff, Nat.reduceLT, Nat.reduceLeDiff, Nat.reduceAdd, Nat.reduceMul, Nat.reduceSub, Nat.reduceBEq, ↓reduceIte, bne_self_eq_false, Bool.and_false, Bool.false_and, Bool.true_or, Bool.false_or, h1, h2])
            | (refine tr_drawS (id := 15) follows 14 [.op 14, .put 15] (by kernel_rfl) ?_; simp only [go_sem, List.getElem?_toArray, str_beq, reduceCtorEq, Nat.reduceEqDiff, Nat.reduceLT, Nat.reduceLeDiff, Nat.reduceAdd, Nat.reduceMul, Nat.reduceSub, Nat.reduceBEq, ↓reduceIte, bne_self_eq_false, Bool.and_false, Bool.false_and, Bool.true_or, Bool.false_or, h1, h2])
            | refine k_of (by assumption) ?_
            | refine tr_block ?_
            | refine tr_scope ?_
            | (refine tr_skip ?_; try simp only [ex_seq, ex_block])
            | (refine tr_label ?_; try simp only [ex_seq, ex_block])
            | (refine tr_exit ?_; try simp only [ex_seq_exit, ex_block_exit, Nat.reduceEqDiff, if_true, if_false, ex_seq, ex_block, reduceCtorEq, ↓reduceIte])
            | (refine tr_ret ?_; try simp only [ex_seq_ret, ex_block_ret]))
        refine tr_cond rfl (fun ht => ?_) (fun hf => ?_)
        · cases ht
        · repeat (first
              | refine tr_seq_k fun _ _ => ?_
              | (refine tr_region ?_; simp only [go_sem, List.getElem?_toArray, str_beq, reduceCtorEq, Nat.reduceEqDiff, Nat.reduceLT, Nat.reduceLeDiff, Nat.reduceAdd, Nat.reduceMul, Nat.reduceSub, Nat.reduceBEq, ↓reduceIte, bne_self_eq_false, Bool.and_false, Bool.false_and, Bool.true_or, Bool.false_or, hb, p1, hN, hlk])
              | (refine tr_drawS (id := 15) follows 14 [.op 14, .put 15] (by kernel_rfl) ?_; simp only [go_sem, List.getElem?_toArray, str_beq, reduceCtorEq, Nat.reduceEqDiff, Nat.reduceLT, Nat.reduceLeDiff, Nat.reduceAdd, Nat.reduceMul, Nat.reduceSub, Nat.reduceBEq, ↓reduceIte, bne_self_eq_false, Bool.and_false, Bool.false_and, Bool.true_or, Bool.false_or, hb, p1, hN, hlk])
              | refine k_of (by assumption) ?_
              | refine tr_block ?_
              | refine tr_scope ?_
              | (refine tr_skip ?_; try simp only [ex_seq, ex_block])
              | (refine tr_label ?_; try simp only [ex_seq, ex_block])
              | (refine tr_exit ?_; try simp only [ex_seq_exit, ex_block_exit, Nat.reduceEqDiff, if_true, if_false, ex_seq, ex_block, reduceCtorEq, ↓reduceIte])
              | (refine tr_ret ?_; try simp only [ex_seq_ret, ex_block_ret]))
          refine tr_cond rfl (fun ht => ?_) (fun hf => ?_)
          · cases ht
          · repeat (first
                | refine tr_seq_k fun _ _ => ?_
                | (refine tr_region ?_; simp only [go_sem, List.getElem?_toArray, str_beq, reduceCtorEq, Nat.reduceEqDiff, Nat.reduceLT, Nat.reduceLeDiff, Nat.reduceAdd, Nat.reduceMul, Nat.reduceSub, Nat.reduceBEq, ↓reduceIte, bne_self_eq_false, Bool.and_false, Bool.false_and, Bool.true_or, Bool.false_or, hb, p1, hN, nmI_len, h3])
                | (refine tr_drawS (id := 15) follows 14 [.op 14, .put 15] (by kernel_rfl) ?_; simp only [go_sem, List.getElem?_toArray, str_beq, reduceCtorEq, Nat.reduceEqDiff, Nat.reduceLT, Nat.reduceLeDiff, Nat.reduceAdd, Nat.reduceMul, Nat.reduceSub, Nat.reduceBEq, ↓reduceIte, bne_self_eq_false, Bool.and_false, Bool.false_and, Bool.true_or, Bool.false_or, hb, p1, hN, nmI_len, h3])
                | refine k_of (by assumption) ?_
                | refine tr_block ?_
                | refine tr_scope ?_
                | (refine tr_skip ?_; try simp only [ex_seq, ex_block])
                | (refine tr_label ?_; try simp only [ex_seq, ex_block])
                | (refine tr_exit ?_; try simp only [ex_seq_exit, ex_block_exit, Nat.reduceEqDiff, if_true, if_false, ex_seq, ex_block, reduceCtorEq, ↓reduceIte])
                | (refine tr_ret ?_; try simp only [ex_seq_ret, ex_block_ret]))
            refine tr_cond rfl (fun ht => ?_) (fun hf => ?_)
            · cases ht
            · repeat (first
                  | refine tr_seq_k fun _ _ => ?_
                  | (refine tr_region ?_; simp only [go_sem, List.getElem?_toArray, str_beq, reduceCtorEq, Nat.reduceEqDiff, Nat.reduceLT, Nat.reduceLeDiff, Nat.reduceAdd, Nat.reduceMul, Nat.reduceSub, Nat.reduceBEq, ↓reduceIte, bne_self_eq_false, Bool.and_false, Bool.false_and, Bool.true_or, Bool.false_or, hb, p1, h4, hv, hv2])
                  | (refine tr_drawS (id := 15) follows 14 [.op 14, .put 15] (by kernel_rfl) ?_; simp only [go_sem, List.getElem?_toArray, str_beq, reduceCtorEq, Nat.reduceEqDiff, Nat.reduceLT, Nat.reduceLeDiff, Nat.reduceAdd, Nat.reduceMul, Nat.reduceSub, Nat.reduceBEq, ↓reduceIte, bne_self_eq_false, Bool.and_false, Bool.false_and, Bool.true_or, Bool.false_or, hb, p1, h4, hv, hv2])
                  | (refine call_givesW (cl) ?_; (try dsimp only); (try simp only [go_sem, List.getElem?_toArray, str_beq, reduceCtorEq, Nat.reduceEqDiff, Nat.reduceLT, Nat.reduceLeDiff, Nat.reduceAdd, Nat.reduceMul, Nat.reduceSub, Nat.reduceBEq, ↓reduceIte, bne_self_eq_false, Bool.and_false, Bool.false_and, Bool.true_or, Bool.false_or, hb, p1, h4, hv, hv2]))
                  | refine k_of (by assumption) ?_
                  | refine tr_block ?_
                  | refine tr_scope ?_
                  | (refine tr_skip ?_; try simp only [ex_seq, ex_block])
                  | (refine tr_label ?_; try simp only [ex_seq, ex_block])
                  | (refine tr_exit ?_; try simp only [ex_seq_exit, ex_block_exit, Nat.reduceEqDiff, if_true, if_false, ex_seq, ex_block, reduceCtorEq, ↓reduceIte])
                  | (refine tr_ret ?_; try simp only [ex_seq_ret, ex_block_ret]))
              refine tr_cond rfl (fun ht => ?_) (fun hf => ?_)
              · cases ht
              · repeat (first
                    | refine tr_seq_k fun _ _ => ?_
                    | (refine tr_region ?_; simp only [go_sem, List.getElem?_toArray, str_beq, reduceCtorEq, Nat.reduceEqDiff, Nat.reduceLT, Nat.reduceLeDiff, Nat.reduceAdd, Nat.reduceMul, Nat.reduceSub, Nat.reduceBEq, ↓reduceIte, bne_self_eq_false, Bool.and_false, Bool.false_and, Bool.true_or, Bool.false_or, hb, p1, ha', hb1, setB_eq, gb2, gh2, i1, f1, e2', gN2, gb3, gN3, mPut, hlk, nmI_app])
                    | (refine tr_drawS (id := 15) follows 14 [.op 14, .put 15] (by kernel_rfl) ?_; simp only [go_sem, List.getElem?_toArray, str_beq, reduceCtorEq, Nat.reduceEqDiff, Nat.reduceLT, Nat.reduceLeDiff, Nat.reduceAdd, Nat.reduceMul, Nat.reduceSub, Nat.reduceBEq, ↓reduceIte, bne_self_eq_false, Bool.and_false, Bool.false_and, Bool.true_or, Bool.false_or, hb, p1, ha', hb1, setB_eq, gb2, gh2, i1, f1, e2', gN2, gb3, gN3, mPut, hlk, nmI_app])
                    | refine k_of (by assumption) ?_
                    | refine tr_block ?_
                    | refine tr_scope ?_
                    | (refine tr_skip ?_; try simp only [ex_seq, ex_block])
                    | (refine tr_label ?_; try simp only [ex_seq, ex_block])
                    | (refine tr_exit ?_; try simp only [ex_seq_exit, ex_block_exit, Nat.reduceEqDiff, if_true, if_false, ex_seq, ex_block, reduceCtorEq, ↓reduceIte])
                    | (refine tr_ret ?_; try simp only [ex_seq_ret, ex_block_ret]))
                refine (hQ _ _ [iA (E.length : Nat), iA 0] ?_ rfl rfl).2 <;> simp only [go_sem, List.getElem?_toArray, str_beq, reduceCtorEq, Nat.reduceEqDiff, Nat.reduceLT, Nat.reduceLeDiff, Nat.reduceAdd, Nat.reduceMul, Nat.reduceSub, Nat.reduceBEq, ↓reduceIte, bne_self_eq_false, Bool.and_false, Bool.false_and, Bool.true_or, Bool.false_or, Try.f10]
    · refine givesW_of' Try.func10 rfl (by kernel_rfl) Try.ntmps10 rfl rfl fun Q hQ => ?_
      repeat (first
          | refine tr_seq_k fun _ _ => ?_
          | (refine tr_region ?_; simp only [go_sem, List.getElem?_toArray, str_beq, reduceCtorEq, Nat.reduceEqDiff, Nat.reduceLT, Nat.reduceLeDiff, Nat.reduceAdd, Nat.reduceMul, Nat.reduceSub, Nat.reduceBEq, ↓reduceIte, bne_self_eq_false, Bool.and_false, Bool.false_and, Bool.true_or, Bool.false_or, h1, h2])
          | (refine tr_drawS (id := 15) follows 14 [.op 14, .put 15] (by kernel_rfl) ?_; simp only [go_sem, List.getElem?_toArray, str_beq, reduceCtorEq, Nat.reduceEqDiff, Nat.reduceLT, Nat.reduceLeDiff, Nat.reduceAdd, Nat.reduceMul, Nat.reduceSub, Nat.reduceBEq, ↓reduceIte, bne_self_eq_false, Bool.and_false, Bool.false_and, Bool.true_or, Bool.false_or, h1, h2])
          | refine k_of (by assumption) ?_
          | refine tr_block ?_
          | refine tr_scope ?_
          | (refine tr_skip ?_; try simp only [ex_seq, ex_block])
          | (refine tr_label ?_; try simp only [ex_seq, ex_block])
          | (refine tr_exit ?_; try simp only [ex_seq_exit, ex_block_exit, Nat.reduceEqDiff, if_true, if_false, ex_seq, ex_block, reduceCtorEq, ↓reduceIte])
          | (refine tr_ret ?_; try simp only [ex_seq_ret, ex_block_ret]))
      refine tr_cond rfl (fun ht => ?_) (fun hf => ?_)
      · cases ht
      · repeat (first
            | refine tr_seq_k fun _ _ => ?_
            | (refine tr_region ?_; simp only [go_sem, List.getElem?_toArray, str_beq, reduceCtorEq, Nat.reduceEqDiff, Nat.reduceLT, Nat.reduceLeDiff, Nat.reduceAdd, Nat.reduceMul, Nat.reduceSub, Nat.reduceBEq, ↓reduceIte, bne_self_eq_false, Bool.and_false, Bool.false_and, Bool.true_or, Bool.false_or, h1, h2])
            | (refine tr_drawS (id := 15) follows 14 [.op 14, .put 15] (by kernel_rfl) ?_; simp only [go_sem, List.getElem?_toArray, str_beq, reduceCtorEq, Nat.reduceEqDiff, Nat.reduceLT, Nat.reduceLeDiff, Nat.reduceAdd, Nat.reduceMul, Nat.reduceSub, Nat.reduceBEq, ↓reduceIte, bne_self_eq_false, Bool.and_false, Bool.false_and, Bool.true_or, Bool.false_or, h1, h2])
            | refine k_of (by assumption) ?_
            | refine tr_block ?_
            | refine tr_scope ?_
            | (refine tr_skip ?_; try simp only [ex_seq, ex_block])
            | (refine tr_label ?_; try simp only [ex_seq, ex_block])
            | (refine tr_exit ?_; try simp only [ex_seq_exit, ex_block_exit, Nat.reduceEqDiff, if_true, if_false, ex_seq, ex_block, reduceCtorEq, ↓reduceIte])
            | (refine tr_ret ?_; try simp only [ex_seq_ret, ex_block_ret]))
        refine tr_cond rfl (fun ht => ?_) (fun hf => ?_)
        · cases ht
        · repeat (first
              | refine tr_seq_k fun _ _ => ?_
              | (refine tr_region ?_; simp only [go_sem, List.getElem?_toArray, str_beq, reduceCtorEq, Nat.reduceEqDiff, Nat.reduceLT, Nat.reduceLeDiff, Nat.reduceAdd, Nat.reduceMul, Nat.reduceSub, Nat.reduceBEq, ↓reduceIte, bne_self_eq_false, Bool.and_false, Bool.false_and, Bool.true_or, Bool.false_or, hb, p1, hN, hlk])
              | (refine tr_drawS (id := 15) follows 14 [.op 14, .put 15] (by kernel_rfl) ?_; simp only [go_sem, List.getElem?_toArray, str_beq, reduceCtorEq, Nat.reduceEqDiff, Nat.reduceLT, Nat.reduceLeDiff, Nat.reduceAdd, Nat.reduceMul, Nat.reduceSub, Nat.reduceBEq, ↓reduceIte, bne_self_eq_false, Bool.and_false, Bool.false_and, Bool.true_or, Bool.false_or, hb, p1, hN, hlk])
              | refine k_of (by assumption) ?_
              | refine tr_block ?_
              | refine tr_scope ?_
              | (refine tr_skip ?_; try simp only [ex_seq, ex_block])
              | (refine tr_label ?_; try simp only [ex_seq, ex_block])
              | (refine tr_exit ?_; try simp only [ex_seq_exit, ex_block_exit, Nat.reduceEqDiff, if_true, if_false, ex_seq, ex_block, reduceCtorEq, ↓reduceIte])
              | (refine tr_ret ?_; try simp only [ex_seq_ret, ex_block_ret]))
          refine tr_cond rfl (fun ht => ?_) (fun hf => ?_)
          · cases ht
          · repeat (first
                | refine tr_seq_k fun _ _ => ?_
                | (refine tr_region ?_; simp only [go_sem, List.getElem?_toArray, str_beq, reduceCtorEq, Nat.reduceEqDiff, Nat.reduceLT, Nat.reduceLeDiff, Nat.reduceAdd, Nat.reduceMul, Nat.reduceSub, Nat.reduceBEq, ↓reduceIte, bne_self_eq_false, Bool.and_false, Bool.false_and, Bool.true_or, Bool.false_or, hb, p1, hN, nmI_len, h3])
                | (refine tr_drawS (id := 15) follows 14 [.op 14, .put 15] (by kernel_rfl) ?_; simp only [go_sem, List.getElem?_toArray, str_beq, reduceCtorEq, Nat.reduceEqDiff, Nat.reduceLT, Nat.reduceLeDiff, Nat.reduceAdd, Nat.reduceMul, Nat.reduceSub, Nat.reduceBEq, ↓reduceIte, bne_self_eq_false, Bool.and_false, Bool.false_and, Bool.true_or, Bool.false_or, hb, p1, hN, nmI_len, h3])
                | refine k_of (by assumption) ?_
                | refine tr_block ?_
                | refine tr_scope ?_
                | (refine tr_skip ?_; try simp only [ex_seq, ex_block])
                | (refine tr_label ?_; try simp only [ex_seq, ex_block])
                | (refine tr_exit ?_; try simp only [ex_seq_exit, ex_block_exit, Nat.reduceEqDiff, if_true, if_false, ex_seq, ex_block, reduceCtorEq, ↓reduceIte])
                | (refine tr_ret ?_; try simp only [ex_seq_ret, ex_block_ret]))
            refine tr_cond rfl (fun ht => ?_) (fun hf => ?_)
            · cases ht
            · repeat (first
                  | refine tr_seq_k fun _ _ => ?_
                  | (refine tr_region ?_; simp only [go_sem, List.getElem?_toArray, str_beq, reduceCtorEq, Nat.reduceEqDiff, Nat.reduceLT, Nat.reduceLeDiff, Nat.reduceAdd, Nat.reduceMul, Nat.reduceSub, Nat.reduceBEq, ↓reduceIte, bne_self_eq_false, Bool.and_false, Bool.false_and, Bool.true_or, Bool.false_or, hb, p1, h4, hv, hv2])
                  | (refine tr_drawS (id := 15) follows 14 [.op 14, .put 15] (by kernel_rfl) ?_; simp only [go_sem, List.getElem?_toArray, str_beq, reduceCtorEq, Nat.reduceEqDiff, Nat.reduceLT, Nat.reduceLeDiff, Nat.reduceAdd, Nat.reduceMul, Nat.reduceSub, Nat.reduceBEq, ↓reduceIte, bne_self_eq_false, Bool.and_false, Bool.false_and, Bool.true_or, Bool.false_or, hb, p1, h4, hv, hv2])
                  | (refine call_givesW (cl) ?_; (try dsimp only); (try simp only [go_sem, List.getElem?_toArray, str_beq, reduceCtorEq, Nat.reduceEqDiff, Nat.reduceLT, Nat.reduceLeDiff, Nat.reduceAdd, Nat.reduceMul, Nat.reduceSub, Nat.reduceBEq, ↓reduceIte, bne_self_eq_false, Bool.and_false, Bool.false_and, Bool.true_or, Bool.false_or, hb, p1, h4, hv, hv2]))
                  | refine k_of (by assumption) ?_
                  | refine tr_block ?_
                  | refine tr_scope ?_
                  | (refine tr_skip ?_; try simp only [ex_seq, ex_block])
                  | (refine tr_label ?_; try simp only [ex_seq, ex_block])
                  | (refine tr_exit ?_; try simp only [ex_seq_exit, ex_block_exit, Nat.reduceEqDiff, if_true, if_false, ex_seq, ex_block, reduceCtorEq, ↓reduceIte])
                  | (refine tr_ret ?_; try simp only [ex_seq_ret, ex_block_ret]))
              refine tr_cond rfl (fun ht => ?_) (fun hf => ?_)
              · cases ht
              · repeat (first
                    | refine tr_seq_k fun _ _ => ?_
                    | (refine tr_region ?_; simp only [go_sem, List.getElem?_toArray, str_beq, reduceCtorEq, Nat.reduceEqDiff, Nat.reduceLT, Nat.reduceLeDiff, Nat.reduceAdd, Nat.reduceMul, Nat.reduceSub, Nat.reduceBEq, ↓reduceIte, bne_self_eq_false, Bool.and_false, Bool.false_and, Bool.true_or, Bool.false_or, hb, p1, ha', hb1, setB_eq, gb2, gh2, i1, f1, e2', gN2, gb3, gN3, mPut, hlk, nmI_app])
                    | (refine tr_drawS (id := 15) follows 14 [.op 14, .put 15] (by kernel_rfl) ?_; simp only [go_sem, List.getElem?_toArray, str_beq, reduceCtorEq, Nat.reduceEqDiff, Nat.reduceLT, Nat.reduceLeDiff, Nat.reduceAdd, Nat.reduceMul, Nat.reduceSub, Nat.reduceBEq, ↓reduceIte, bne_self_eq_false, Bool.and_false, Bool.false_and, Bool.true_or, Bool.false_or, hb, p1, ha', hb1, setB_eq, gb2, gh2, i1, f1, e2', gN2, gb3, gN3, mPut, hlk, nmI_app])
                    | refine k_of (by assumption) ?_
                    | refine tr_block ?_
                    | refine tr_scope ?_
                    | (refine tr_skip ?_; try simp only [ex_seq, ex_block])
                    | (refine tr_label ?_; try simp only [ex_seq, ex_block])
                    | (refine tr_exit ?_; try simp only [ex_seq_exit, ex_block_exit, Nat.reduceEqDiff, if_true, if_false, ex_seq, ex_block, reduceCtorEq, ↓reduceIte])
                    | (refine tr_ret ?_; try simp only [ex_seq_ret, ex_block_ret]))
                refine (hQ _ _ [iA (E.length : Nat), iA 0] ?_ rfl rfl).2 <;> simp only [go_sem, List.getElem?_toArray, str_beq, reduceCtorEq, Nat.reduceEqDiff, Nat.reduceLT, Nat.reduceLeDiff, Nat.reduceAdd, Nat.reduceMul, Nat.reduceSub, Nat.reduceBEq, ↓reduceIte, bne_self_eq_false, Bool.and_false, Bool.false_and, Bool.true_or, Bool.false_or, Try.f10]
  · refine ⟨c1, .lsl h 0 (E.length + 1) 2, mb, F, N ++ [(s, E.length)], s1, [h], ?_, ?_, ?_, ?_, ?_, rfl, ?_⟩
    · rw [setB_ne (Ne.symm hbm.1)]; exact gb3
    · have hF1 : RowAt m1 inC 1 c1 F s1 := hF.keep hk (fun i hi h2 => hbm.2.2.2.2.2 i hi h2)
      rcases hF1 with hF1 | ⟨h', L', q1, q2, q3, q4⟩
      · exact Or.inl hF1
      · refine Or.inr ⟨h', L', q1, q2, ?_, q4⟩
        subst q2
        have t1 : b ≠ h' := fun e => hbm.2.1 (by simp [e])
        have t2 : mb ≠ h' := fun e => hbm.2.2.2.1 (by simp [e])
        have t3 : h ≠ h' := fun e => by
          rcases hF with ⟨_, _, q5⟩ | ⟨_, _, _, q5, q6, _⟩
          · cases q5
          · injection q5 with q5
            subst q5
            have := (List.getElem?_eq_some_iff.1 q6).1
            omega
        rw [setB_ne t2, setB_ne t3, setB_ne t1]
        exact q3
    · refine Or.inr ⟨h, E ++ [(s, 1)], by simp, rfl, ?_, (List.take_of_length_le (Nat.le_refl _)).symm⟩
      rw [setB_ne (by omega), setB_self hhl2]
    · have := (List.getElem?_eq_some_iff.1 gN3).1
      exact setB_self this _
    · have := hI.push h0 hse hf
      rw [h0]
      exact this
    · have hn1 : ∀ i ∈ s1, i ≠ h := fun i hi e => by
        rcases hF with ⟨_, _, q5⟩ | ⟨_, _, _, q5, q6, _⟩
        · rw [q5] at hi; cases hi
        · rw [q5] at hi
          have := (List.getElem?_eq_some_iff.1 q6).1
          simp at hi
          omega
      simp only [List.nodup_cons, List.mem_cons, List.mem_append, not_or, List.nodup_append] at hnd ⊢
      refine ⟨⟨hnd.1.1, hnd.1.2.1, by omega, by simp⟩, ⟨hnd.2.1.1, by omega, by simp⟩, hnd.2.2.1, by simp, fun x hx y hy => ?_⟩
      rw [hy.resolve_right (by simp)]
      exact hn1 x hx
  · have k0 : Kp m m1 (b :: mb :: (s1 ++ s2)) (b :: mb :: (s1 ++ [h])) := hk.mono (fun i hi => by simp [hi]) (fun i hi => by
      simp only [List.mem_cons, List.mem_append, List.not_mem_nil, or_false] at hi ⊢
      rcases hi with hi | hi | hi | hi
      · exact Or.inr (Or.inl hi)
      · exact Or.inr (Or.inr (Or.inl hi))
      · exact Or.inr (Or.inr (Or.inr (Or.inl hi)))
      · exact Or.inl hi)
    refine ((k0.put (i := b) (by simp) ?_).put (i := h) (by simp) ?_).put (i := mb) (by simp) ?_
    · simp only [lows, low, Bool.and_true, Bool.and_eq_true, Nat.blt_eq]
      exact ⟨low_mono (by omega) (Nat.le_refl _) (hF.low m1.hw.length), hhl, hm1l⟩
    · exact lows_blC
    · rfl
end Go.Proofs.Ytlhlcfijpdknfaa

/-
  Chapter 2: Take of a text that is new, with a number that was free; Take in all.
-/
set_option linter.unusedSimpArgs false
set_option linter.unusedVariables false
namespace Go.Proofs.Ytlhlcfijpdknfaa
open Go.Vs Go.Vs.Ab Go.Vs.Hp Go.Vs.Tb
set_option maxRecDepth 100000
set_option maxHeartbeats 4000000

theorem take_pop {m : Mm} {b : Nat} {E : List Ent} {S : List Nat} {c1 c2 : AV} {mb : Nat} {F : List Int} {N : List (ByteArray × Nat)} {s1 s2 : List Nat} (hb : m.hp[b]? = some ⟨false, [c1, c2, .mapp mb]⟩) (hF : RowAt m inC 1 c1 F s1) (hE : RowAt m enC 2 c2 E s2) (hN : m.hp[mb]? = some ⟨false, [.ent (nmI N)]⟩) (hI : Inv F E N) (hS : S = b :: mb :: (s1 ++ s2)) (hnd : S.Nodup)
    (hW : Wf m) {s : ByteArray} (hs : ¬ (s.size < 1 ∨ 255 < s.size)) (hf : findS E s = none) (hM : E.length ≤ 1000) (hFl : F.length ≤ 1000) (h0 : 0 < F.length) :
    ∃ m', GivesW Try.prog 10 [.ptr b 0, sA s] m (.tup [iA (leastF E : Nat), iA 0]) m' ∧ TabM m' b (E.set (leastF E) (s, 1)) S ∧ Kp m m' S S := by
  have h1 : decide (s = ⟨#[]⟩) = false := decide_eq_false (fun e => hs (Or.inl ((emp_size s).1 e)))
  have h2 : decide ((255 : Int) < (s.size : Nat)) = false := decide_eq_false (by omega)
  have hse : s ≠ emp := fun e => hs (Or.inl ((emp_size s).1 e))
  have p1 := hF.plain1
  have hlk := nmI_none und_str ((hI.find_none s).2 hf)
  have hNl : N.length ≤ 1000 := by rw [hI.len]; exact Nat.le_trans (liveN_le E) hM
  have h3 : decide ((65536 : Int) ≤ (N.length : Nat)) = false := decide_eq_false (by omega)
  have cl := len_row hF
  have h4 : decide ((0 : Int) < (F.length : Nat)) = true := decide_eq_true (by omega)
  obtain ⟨hle0, hln⟩ := hI.least h0
  generalize hn : leastF E = n at *
  rcases hF with ⟨e0, _⟩ | ⟨hF', L, rfl, rfl, hL, hFL⟩
  · rw [e0] at h0; simp at h0
  have hlL : F.length ≤ L.length := by
    have := congrArg List.length hFL
    rw [List.length_take] at this
    omega
  have hge : ∀ i, i < F.length → F.getD i 0 = L.getD i 0 := fun i hi => by
    rw [hFL, List.getD_eq_getElem?_getD, List.getElem?_take, if_pos hi, ← List.getD_eq_getElem?_getD]
  have hHL : Heap L F.length := fun j h5 h6 => by
    rw [← hge _ (by omega), ← hge _ h6]
    exact hI.heap j h5 h6
  obtain ⟨q1, q2, q3, q4⟩ := pop_ok hHL h0 hlL
  subst hS
  obtain ⟨hE', L2, rfl, rfl, hL2, hEL, hkL, hg⟩ := row_get hE hln
  have hnn : b ≠ mb ∧ b ≠ hF' ∧ b ≠ hE' ∧ mb ≠ hF' ∧ mb ≠ hE' ∧ hF' ≠ hE' := by
    simp only [List.cons_append, List.nil_append, List.nodup_cons, List.mem_cons, List.not_mem_nil, or_false, not_or] at hnd
    exact ⟨hnd.1.1, hnd.1.2.1, hnd.1.2.2, hnd.2.1.1, hnd.2.1.2, hnd.2.2.1⟩
  have hbl := (List.getElem?_eq_some_iff.1 hb).1
  have hhl := (List.getElem?_eq_some_iff.1 hL).1
  have hl2 := (List.getElem?_eq_some_iff.1 hL2).1
  have hml := (List.getElem?_eq_some_iff.1 hN).1
  have c5 := hpop hb hL hnn.2.1 hlL q1 h0 (by omega) hW
  rw [q2, ← hge 0 h0, hle0] at c5
  obtain ⟨m1, hm1⟩ : ∃ m1 : Mm, m1 = ⟨(mS m hF' (popN L F.length)).hp.set b ⟨false, [.lsl hF' 0 (F.length - 1) 1, .lsl hE' 0 E.length 2, .mapp mb]⟩, m.hw⟩ := ⟨_, rfl⟩
  rw [← hm1] at c5
  have hm1' : m1 = setB (setB m hF' (inB (popN L F.length))) b ⟨false, [.lsl hF' 0 (F.length - 1) 1, .lsl hE' 0 E.length 2, .mapp mb]⟩ := hm1
  clear hm1
  have k1 : Kp m m1 (b :: mb :: ([hF'] ++ [hE'])) (b :: mb :: ([hF'] ++ [hE'])) := by
    rw [hm1']
    refine ((Kp.refl hW _).put (i := hF') (by simp) lows_blC).put (i := b) (by simp) ?_
    simp only [lows, low, Bool.and_true, Bool.and_eq_true, Nat.blt_eq, setB_len]
    exact ⟨hhl, hl2, hml⟩
  have gb1 : m1.hp[b]? = some ⟨false, [.lsl hF' 0 (F.length - 1) 1, .lsl hE' 0 E.length 2, .mapp mb]⟩ := by rw [hm1']; exact setB_self (by rw [setB_len]; exact hbl) _
  have gF1 : m1.hp[hF']? = some (inB (popN L F.length)) := by rw [hm1', setB_ne hnn.2.1]; exact setB_self hhl _
  have gE1 : m1.hp[hE']? = some ⟨false, blC enC L2⟩ := by rw [hm1', setB_ne hnn.2.2.1, setB_ne hnn.2.2.2.2.2]; exact hL2
  have gN1 : m1.hp[mb]? = some ⟨false, [.ent (nmI N)]⟩ := by rw [hm1', setB_ne hnn.1, setB_ne (Ne.symm hnn.2.2.2.1)]; exact hN
  clear hm1'
  have hbl1 := (List.getElem?_eq_some_iff.1 gb1).1
  have hl21 := (List.getElem?_eq_some_iff.1 gE1).1
  have hml1 := (List.getElem?_eq_some_iff.1 gN1).1
  have i1 := en_idx (b := hE') (n := E.length) hln
  have f1 := en_fit0 hkL
  have e2 := en_set hkL (s, 1)
  have e2' : List.take (n * 2) (blC enC L2) ++ [sA s, iA 1] ++ List.drop (n * 2 + 2) (blC enC L2) = blC enC (L2.set n (s, 1)) := e2
  have gN2 : (setB m1 hE' ⟨false, blC enC (L2.set n (s, 1))⟩).hp[mb]? = some ⟨false, [.ent (nmI N)]⟩ := by rw [setB_ne (Ne.symm hnn.2.2.2.2.1)]; exact gN1
  have k2 : Kp m (setB (setB m1 hE' ⟨false, blC enC (L2.set n (s, 1))⟩) mb ⟨false, [.ent (nmI (N ++ [(s, n)]))]⟩) (b :: mb :: ([hF'] ++ [hE'])) (b :: mb :: ([hF'] ++ [hE'])) :=
    (k1.put (i := hE') (by simp) lows_blC).put (i := mb) (by simp) rfl
  refine ⟨_, ?_, ?_, k2⟩
  · refine givesW_of' Try.func10 rfl (by kernel_rfl) Try.ntmps10 rfl rfl fun Q hQ => ?_
    repeat (first
        | refine tr_seq_k fun _ _ => ?_
        | (refine tr_region ?_; simp only [go_sem, List.getElem?_toArray, str_beq, reduceCtorEq, Nat.reduceEqDiff, Nat.reduceLT, Nat.reduceLeDiff, Nat.reduceAdd, Nat.reduceMul, Nat.reduceSub, Nat.reduceBEq, ↓reduceIte, bne_self_eq_false, Bool.and_false, Bool.false_and, Bool.true_or, Bool.false_or, h1, h2])
        | (refine tr_drawS (id := 15) follows 14 [.op 14, .put 15] (by kernel_rfl) ?_; simp only [go_sem, List.getElem?_toArray, str_beq, reduceCtorEq, Nat.reduceEqDiff, Nat.reduceLT, Nat.reduceLeDiff, Nat.reduceAdd, Nat.reduceMul, Nat.reduceSub, Nat.reduceBEq, ↓reduceIte, bne_self_eq_false, Bool.and_false, Bool.false_and, Bool.true_or, Bool.false_or, h1, h2])
        | refine k_of (by assumption) ?_
        | refine tr_block ?_
        | refine tr_scope ?_
        | (refine tr_skip ?_; try simp only [ex_seq, ex_block])
        | (refine tr_label ?_; try simp only [ex_seq, ex_block])
        | (refine tr_exit ?_; try simp only [ex_seq_exit, ex_block_exit, Nat.reduceEqDiff, if_true, if_false, ex_seq, ex_block, reduceCtorEq, ↓reduceIte])
        | (refine tr_ret ?_; try simp only [ex_seq_ret, ex_block_ret]))
    refine tr_cond rfl (fun ht => ?_) (fun hf => ?_)
    · cases ht
    · repeat (first
          | refine tr_seq_k fun _ _ => ?_
          | (refine tr_region ?_; simp only [go_sem, List.getElem?_toArray, str_beq, reduceCtorEq, Nat.reduceEqDiff, Nat.reduceLT, Nat.reduceLeDiff, Nat.reduceAdd, Nat.reduceMul, Nat.reduceSub, Nat.reduceBEq, ↓reduceIte, bne_self_eq_false, Bool.and_false, Bool.false_and, Bool.true_or, Bool.false_or, h1, h2])
          | (refine tr_drawS (id := 15) follows 14 [.op 14, .put 15] (by kernel_rfl) ?_; simp only [go_sem, List.getElem?_toArray, str_beq, reduceCtorEq, Nat.reduceEqDiff, Nat.reduceLT, Nat.reduceLeDiff, Nat.reduceAdd, Nat.reduceMul, Nat.reduceSub, Nat.reduceBEq, ↓reduceIte, bne_self_eq_false, Bool.and_false, Bool.false_and, Bool.true_or, Bool.false_or, h1, h2])
          | refine k_of (by assumption) ?_
          | refine tr_block ?_
          | refine tr_scope ?_
          | (refine tr_skip ?_; try simp only [ex_seq, ex_block])
          | (refine tr_label ?_; try simp only [ex_seq, ex_block])
          | (refine tr_exit ?_; try simp only [ex_seq_exit, ex_block_exit, Nat.reduceEqDiff, if_true, if_false, ex_seq, ex_block, reduceCtorEq, ↓reduceIte])
          | (refine tr_ret ?_; try simp only [ex_seq_ret, ex_block_ret]))
      refine tr_cond rfl (fun ht => ?_) (fun hf => ?_)
      · cases ht
      · repeat (first
            | refine tr_seq_k fun _ _ => ?_
            | (refine tr_region ?_; simp only [go_sem, List.getElem?_toArray, str_beq, reduceCtorEq, Nat.reduceEqDiff, Nat.reduceLT, Nat.reduceLeDiff, Nat.reduceAdd, Nat.reduceMul, Nat.reduceSub, Nat.reduceBEq, ↓reduceIte, bne_self_eq_false, Bool.and_false, Bool.false_and, Bool.true_or, Bool.false_or, hb, hN, hlk])
            | (refine tr_drawS (id := 15) follows 14 [.op 14, .put 15] (by kernel_rfl) ?_; simp only [go_sem, List.getElem?_toArray, str_beq, reduceCtorEq, Nat.reduceEqDiff, Nat.reduceLT, Nat.reduceLeDiff, Nat.reduceAdd, Nat.reduceMul, Nat.reduceSub, Nat.reduceBEq, ↓reduceIte, bne_self_eq_false, Bool.and_false, Bool.false_and, Bool.true_or, Bool.false_or, hb, hN, hlk])
            | refine k_of (by assumption) ?_
            | refine tr_block ?_
            | refine tr_scope ?_
            | (refine tr_skip ?_; try simp only [ex_seq, ex_block])
            | (refine tr_label ?_; try simp only [ex_seq, ex_block])
            | (refine tr_exit ?_; try simp only [ex_seq_exit, ex_block_exit, Nat.reduceEqDiff, if_true, if_false, ex_seq, ex_block, reduceCtorEq, ↓reduceIte])
            | (refine tr_ret ?_; try simp only [ex_seq_ret, ex_block_ret]))
        refine tr_cond rfl (fun ht => ?_) (fun hf => ?_)
        · cases ht
        · repeat (first
              | refine tr_seq_k fun _ _ => ?_
              | (refine tr_region ?_; simp only [go_sem, List.getElem?_toArray, str_beq, reduceCtorEq, Nat.reduceEqDiff, Nat.reduceLT, Nat.reduceLeDiff, Nat.reduceAdd, Nat.reduceMul, Nat.reduceSub, Nat.reduceBEq, ↓reduceIte, bne_self_eq_false, Bool.and_false, Bool.false_and, Bool.true_or, Bool.false_or, hb, hN, nmI_len, h3])
              | (refine tr_drawS (id := 15) follows 14 [.op 14, .put 15] (by kernel_rfl) ?_; simp only [go_sem, List.getElem?_toArray, str_beq, reduceCtorEq, Nat.reduceEqDiff, Nat.reduceLT, Nat.reduceLeDiff, Nat.reduceAdd, Nat.reduceMul, Nat.reduceSub, Nat.reduceBEq, ↓reduceIte, bne_self_eq_false, Bool.and_false, Bool.false_and, Bool.true_or, Bool.false_or, hb, hN, nmI_len, h3])
              | refine k_of (by assumption) ?_
              | refine tr_block ?_
              | refine tr_scope ?_
              | (refine tr_skip ?_; try simp only [ex_seq, ex_block])
              | (refine tr_label ?_; try simp only [ex_seq, ex_block])
              | (refine tr_exit ?_; try simp only [ex_seq_exit, ex_block_exit, Nat.reduceEqDiff, if_true, if_false, ex_seq, ex_block, reduceCtorEq, ↓reduceIte])
              | (refine tr_ret ?_; try simp only [ex_seq_ret, ex_block_ret]))
          refine tr_cond rfl (fun ht => ?_) (fun hf => ?_)
          · cases ht
          · repeat (first
                | refine tr_seq_k fun _ _ => ?_
                | (refine tr_region ?_; simp only [go_sem, List.getElem?_toArray, str_beq, reduceCtorEq, Nat.reduceEqDiff, Nat.reduceLT, Nat.reduceLeDiff, Nat.reduceAdd, Nat.reduceMul, Nat.reduceSub, Nat.reduceBEq, ↓reduceIte, bne_self_eq_false, Bool.and_false, Bool.false_and, Bool.true_or, Bool.false_or, hb, h4])
                | (refine tr_drawS (id := 15) follows 14 [.op 14, .put 15] (by kernel_rfl) ?_; simp only [go_sem, List.getElem?_toArray, str_beq, reduceCtorEq, Nat.reduceEqDiff, Nat.reduceLT, Nat.reduceLeDiff, Nat.reduceAdd, Nat.reduceMul, Nat.reduceSub, Nat.reduceBEq, ↓reduceIte, bne_self_eq_false, Bool.and_false, Bool.false_and, Bool.true_or, Bool.false_or, hb, h4])
                | (refine call_givesW (cl) ?_; (try dsimp only); (try simp only [go_sem, List.getElem?_toArray, str_beq, reduceCtorEq, Nat.reduceEqDiff, Nat.reduceLT, Nat.reduceLeDiff, Nat.reduceAdd, Nat.reduceMul, Nat.reduceSub, Nat.reduceBEq, ↓reduceIte, bne_self_eq_false, Bool.and_false, Bool.false_and, Bool.true_or, Bool.false_or, hb, h4]))
                | refine k_of (by assumption) ?_
                | refine tr_block ?_
                | refine tr_scope ?_
                | (refine tr_skip ?_; try simp only [ex_seq, ex_block])
                | (refine tr_label ?_; try simp only [ex_seq, ex_block])
                | (refine tr_exit ?_; try simp only [ex_seq_exit, ex_block_exit, Nat.reduceEqDiff, if_true, if_false, ex_seq, ex_block, reduceCtorEq, ↓reduceIte])
                | (refine tr_ret ?_; try simp only [ex_seq_ret, ex_block_ret]))
            refine tr_cond rfl (fun ht => ?_) (fun hf => ?_)
            · repeat (first
                  | refine tr_seq_k fun _ _ => ?_
                  | (refine tr_region ?_; simp only [go_sem, List.getElem?_toArray, str_beq, reduceCtorEq, Nat.reduceEqDiff, Nat.reduceLT, Nat.reduceLeDiff, Nat.reduceAdd, Nat.reduceMul, Nat.reduceSub, Nat.reduceBEq, ↓reduceIte, bne_self_eq_false, Bool.and_false, Bool.false_and, Bool.true_or, Bool.false_or, hb, gb1, gE1, gN1, setB_eq, i1, f1, e2', gN2, mPut, hlk, nmI_app])
                  | (refine tr_drawS (id := 15) follows 14 [.op 14, .put 15] (by kernel_rfl) ?_; simp only [go_sem, List.getElem?_toArray, str_beq, reduceCtorEq, Nat.reduceEqDiff, Nat.reduceLT, Nat.reduceLeDiff, Nat.reduceAdd, Nat.reduceMul, Nat.reduceSub, Nat.reduceBEq, ↓reduceIte, bne_self_eq_false, Bool.and_false, Bool.false_and, Bool.true_or, Bool.false_or, hb, gb1, gE1, gN1, setB_eq, i1, f1, e2', gN2, mPut, hlk, nmI_app])
                  | (refine call_givesW (c5) ?_; (try dsimp only); (try simp only [go_sem, List.getElem?_toArray, str_beq, reduceCtorEq, Nat.reduceEqDiff, Nat.reduceLT, Nat.reduceLeDiff, Nat.reduceAdd, Nat.reduceMul, Nat.reduceSub, Nat.reduceBEq, ↓reduceIte, bne_self_eq_false, Bool.and_false, Bool.false_and, Bool.true_or, Bool.false_or, hb, gb1, gE1, gN1, setB_eq, i1, f1, e2', gN2, mPut, hlk, nmI_app]))
                  | refine k_of (by assumption) ?_
                  | refine tr_block ?_
                  | refine tr_scope ?_
                  | (refine tr_skip ?_; try simp only [ex_seq, ex_block])
                  | (refine tr_label ?_; try simp only [ex_seq, ex_block])
                  | (refine tr_exit ?_; try simp only [ex_seq_exit, ex_block_exit, Nat.reduceEqDiff, if_true, if_false, ex_seq, ex_block, reduceCtorEq, ↓reduceIte])
                  | (refine tr_ret ?_; try simp only [ex_seq_ret, ex_block_ret]))
              refine (hQ _ _ [iA (n : Nat), iA 0] ?_ rfl rfl).2 <;> simp only [go_sem, List.getElem?_toArray, str_beq, reduceCtorEq, Nat.reduceEqDiff, Nat.reduceLT, Nat.reduceLeDiff, Nat.reduceAdd, Nat.reduceMul, Nat.reduceSub, Nat.reduceBEq, ↓reduceIte, bne_self_eq_false, Bool.and_false, Bool.false_and, Bool.true_or, Bool.false_or, Try.f10]
            · cases hf
  · refine ⟨.lsl hF' 0 (F.length - 1) 1, .lsl hE' 0 E.length 2, mb, (popN L F.length).take (F.length - 1), N ++ [(s, n)], [hF'], [hE'], ?_, ?_, ?_, ?_, ?_, rfl, hnd⟩
    · rw [setB_ne (Ne.symm hnn.1), setB_ne (Ne.symm hnn.2.2.1)]; exact gb1
    · have e : ((popN L F.length).take (F.length - 1)).length = F.length - 1 := by rw [List.length_take, q1]; omega
      refine Or.inr ⟨hF', popN L F.length, by rw [e], rfl, ?_, by rw [e]⟩
      rw [setB_ne hnn.2.2.2.1, setB_ne (Ne.symm hnn.2.2.2.2.2)]
      exact gF1
    · refine Or.inr ⟨hE', L2.set n (s, 1), by rw [List.length_set], rfl, ?_, take_set hEL hln _⟩
      rw [setB_ne hnn.2.2.2.2.1]
      exact setB_self hl21 _
    · exact setB_self (by rw [setB_len]; exact hml1) _
    · refine hI.fill ?_ ?_ hse hf
      · rw [← hFL, ← hge 0 h0, hle0] at q4
        exact q4
      · have e : ((popN L F.length).take (F.length - 1)).length = F.length - 1 := by rw [List.length_take, q1]; omega
        rw [e]
        exact q3

/-- Take, in all. -/
theorem take_tab {m : Mm} {b : Nat} {E : List Ent} {S : List Nat} (h : TabM m b E S) (hW : Wf m) (s : ByteArray) (hM : E.length ≤ 1000) (hU : ∀ e ∈ E, e.2 ≤ 100000) :
    ∃ m' S', GivesW Try.prog 10 [.ptr b 0, sA s] m (.tup [iA ((takeS E s).1.1 : Nat), iA (takeS E s).1.2]) m' ∧ TabM m' b (takeS E s).2 S' ∧ Kp m m' S S' := by
  unfold takeS
  by_cases hs : s.size < 1 ∨ 255 < s.size
  · rw [if_pos hs]
    exact ⟨m, S, take_bad h hs, h, Kp.refl hW S⟩
  · rw [if_neg hs]
    cases hf : findS E s with
    | some n =>
      obtain ⟨m', h1, h2, h3⟩ := take_found h hW hs hf hU
      exact ⟨m', S, h1, h2, h3⟩
    | none =>
      have hl : ¬ 65536 ≤ liveN E := by have := liveN_le E; omega
      simp only [if_neg hl]
      obtain ⟨c1, c2, mb, F, N, s1, s2, hb, hF, hE, hN, hI, hS, hnd⟩ := h
      by_cases h0 : F = []
      · have := hI.least0 h0
        rw [this, if_pos rfl]
        exact take_push hb hF hE hN hI hS hnd hW hs hf hM h0
      · have h0' : 0 < F.length := List.length_pos_iff.2 h0
        have hlt := (hI.least h0').2
        have hFl : F.length ≤ 1000 := by
          refine Nat.le_trans ?_ hM
          exact hI.free_le
        rw [if_neg (by omega)]
        obtain ⟨m', h1, h2, h3⟩ := take_pop hb hF hE hN hI hS hnd hW hs hf hM hFl h0'
        exact ⟨m', S, h1, h2, h3⟩
end Go.Proofs.Ytlhlcfijpdknfaa

/-
  Chapter 2: Drop.
-/
set_option linter.unusedSimpArgs false
set_option linter.unusedVariables false
namespace Go.Proofs.Ytlhlcfijpdknfaa
open Go.Vs Go.Vs.Ab Go.Vs.Hp Go.Vs.Tb
set_option maxRecDepth 100000
set_option maxHeartbeats 4000000

theorem nmI_erase (N : List (ByteArray × Nat)) (j : Nat) : (nmI N).eraseIdx j = nmI (N.eraseIdx j) := by
  unfold nmI encE
  rw [map_erase, map_erase]

theorem drop_tab {m : Mm} {b : Nat} {E : List Ent} {S : List Nat} (h : TabM m b E S) (hW : Wf m) (n : Int) (hM : E.length ≤ 1000) (hU : ∀ e ∈ E, e.2 ≤ 100000) :
    ∃ m' S', GivesW Try.prog 12 [.ptr b 0, iA n] m (iA (dropS E n).1) m' ∧ TabM m' b (dropS E n).2 S' ∧ Kp m m' S S' := by
  have hh := has_gives h n
  have htab := h
  obtain ⟨c1, c2, mb, F, N, s1, s2, hb, hF, hE, hN, hI, hS, hnd⟩ := h
  have p1 := hF.plain1
  unfold dropS
  cases h0 : hasS E n with
  | false =>
    rw [h0] at hh
    refine ⟨m, S, ?_, htab, Kp.refl hW S⟩
    refine givesW_of' Try.func12 rfl (by kernel_rfl) Try.ntmps12 rfl rfl fun Q hQ => ?_
    repeat (first
        | refine tr_seq_k fun _ _ => ?_
        | (refine tr_region ?_; simp only [go_sem, List.getElem?_toArray, str_beq, reduceCtorEq, Nat.reduceEqDiff, Nat.reduceLT, Nat.reduceLeDiff, Nat.reduceAdd, Nat.reduceMul, Nat.reduceSub, Nat.reduceBEq, ↓reduceIte, bne_self_eq_false, Bool.and_false, Bool.false_and, Bool.true_or, Bool.false_or])
        | (refine tr_draw (id := 7) follows 12 [12] [0, 1, 2, 3, 4, 5, 6, 7, 8, 9, 10, 11, 12] (by kernel_rfl) ?_; simp only [go_sem, List.getElem?_toArray, str_beq, reduceCtorEq, Nat.reduceEqDiff, Nat.reduceLT, Nat.reduceLeDiff, Nat.reduceAdd, Nat.reduceMul, Nat.reduceSub, Nat.reduceBEq, ↓reduceIte, bne_self_eq_false, Bool.and_false, Bool.false_and, Bool.true_or, Bool.false_or])
        | (refine call_givesW (hh) ?_; (try dsimp only); (try simp only [go_sem, List.getElem?_toArray, str_beq, reduceCtorEq, Nat.reduceEqDiff, Nat.reduceLT, Nat.reduceLeDiff, Nat.reduceAdd, Nat.reduceMul, Nat.reduceSub, Nat.reduceBEq, ↓reduceIte, bne_self_eq_false, Bool.and_false, Bool.false_and, Bool.true_or, Bool.false_or]))
        | refine k_of (by assumption) ?_
        | refine tr_block ?_
        | refine tr_scope ?_
        | (refine tr_skip ?_; try simp only [ex_seq, ex_block])
        | (refine tr_label ?_; try simp only [ex_seq, ex_block])
        | (refine tr_exit ?_; try simp only [ex_seq_exit, ex_block_exit, Nat.reduceEqDiff, if_true, if_false, ex_seq, ex_block, reduceCtorEq, ↓reduceIte])
        | (refine tr_ret ?_; try simp only [ex_seq_ret, ex_block_ret]))
    refine tr_cond rfl (fun ht => ?_) (fun hf => ?_)
    · cases ht
    · repeat (first
          | refine tr_seq_k fun _ _ => ?_
          | (refine tr_region ?_; simp only [go_sem, List.getElem?_toArray, str_beq, reduceCtorEq, Nat.reduceEqDiff, Nat.reduceLT, Nat.reduceLeDiff, Nat.reduceAdd, Nat.reduceMul, Nat.reduceSub, Nat.reduceBEq, ↓reduceIte, bne_self_eq_false, Bool.and_false, Bool.false_and, Bool.true_or, Bool.false_or])
          | (refine tr_draw (id := 7) follows 12 [12] [0, 1, 2, 3, 4, 5, 6, 7, 8, 9, 10, 11, 12] (by kernel_rfl) ?_; simp only [go_sem, List.getElem?_toArray, str_beq, reduceCtorEq, Nat.reduceEqDiff, Nat.reduceLT, Nat.reduceLeDiff, Nat.reduceAdd, Nat.reduceMul, Nat.reduceSub, Nat.reduceBEq, ↓reduceIte, bne_self_eq_false, Bool.and_false, Bool.false_and, Bool.true_or, Bool.false_or])
          | (refine call_givesW (hh) ?_; (try dsimp only); (try simp only [go_sem, List.getElem?_toArray, str_beq, reduceCtorEq, Nat.reduceEqDiff, Nat.reduceLT, Nat.reduceLeDiff, Nat.reduceAdd, Nat.reduceMul, Nat.reduceSub, Nat.reduceBEq, ↓reduceIte, bne_self_eq_false, Bool.and_false, Bool.false_and, Bool.true_or, Bool.false_or]))
          | refine k_of (by assumption) ?_
          | refine tr_block ?_
          | refine tr_scope ?_
          | (refine tr_skip ?_; try simp only [ex_seq, ex_block])
          | (refine tr_label ?_; try simp only [ex_seq, ex_block])
          | (refine tr_exit ?_; try simp only [ex_seq_exit, ex_block_exit, Nat.reduceEqDiff, if_true, if_false, ex_seq, ex_block, reduceCtorEq, ↓reduceIte])
          | (refine tr_ret ?_; try simp only [ex_seq_ret, ex_block_ret]))
      refine tr_cond rfl (fun ht => ?_) (fun hf => ?_)
      · repeat (first
            | refine tr_seq_k fun _ _ => ?_
            | (refine tr_region ?_; simp only [go_sem, List.getElem?_toArray, str_beq, reduceCtorEq, Nat.reduceEqDiff, Nat.reduceLT, Nat.reduceLeDiff, Nat.reduceAdd, Nat.reduceMul, Nat.reduceSub, Nat.reduceBEq, ↓reduceIte, bne_self_eq_false, Bool.and_false, Bool.false_and, Bool.true_or, Bool.false_or])
            | (refine tr_draw (id := 7) follows 12 [12] [0, 1, 2, 3, 4, 5, 6, 7, 8, 9, 10, 11, 12] (by kernel_rfl) ?_; simp only [go_sem, List.getElem?_toArray, str_beq, reduceCtorEq, Nat.reduceEqDiff, Nat.reduceLT, Nat.reduceLeDiff, Nat.reduceAdd, Nat.reduceMul, Nat.reduceSub, Nat.reduceBEq, ↓reduceIte, bne_self_eq_false, Bool.and_false, Bool.false_and, Bool.true_or, Bool.false_or])
            | refine k_of (by assumption) ?_
            | refine tr_block ?_
            | refine tr_scope ?_
            | (refine tr_skip ?_; try simp only [ex_seq, ex_block])
            | (refine tr_label ?_; try simp only [ex_seq, ex_block])
            | (refine tr_exit ?_; try simp only [ex_seq_exit, ex_block_exit, Nat.reduceEqDiff, if_true, if_false, ex_seq, ex_block, reduceCtorEq, ↓reduceIte])
            | (refine tr_ret ?_; try simp only [ex_seq_ret, ex_block_ret]))
        refine (hQ _ _ [iA 13] ?_ rfl rfl).2 <;> simp only [go_sem, List.getElem?_toArray, str_beq, reduceCtorEq, Nat.reduceEqDiff, Nat.reduceLT, Nat.reduceLeDiff, Nat.reduceAdd, Nat.reduceMul, Nat.reduceSub, Nat.reduceBEq, ↓reduceIte, bne_self_eq_false, Bool.and_false, Bool.false_and, Bool.true_or, Bool.false_or, Try.f12]
      · cases hf
  | true =>
    rw [h0] at hh
    obtain ⟨k, rfl, hk, hne⟩ := hasS_spec h0
    obtain ⟨hE', L, rfl, rfl, hL, hEL, hkL, hg⟩ := row_get hE hk
    have hEk : E[k]? = some (E[k].1, E[k].2) := List.getElem?_eq_getElem hk
    have hu0 : 0 < (L[k]).2 := by
      rw [hg]
      exact Nat.pos_of_ne_zero fun e => hne ((hI.zero k _ hEk).1 e)
    have hub : (L[k]).2 ≤ 100000 := by rw [hg]; exact hU _ (List.getElem_mem hk)
    have i1 := en_idx (b := hE') (n := E.length) hk
    have g1 := en_get1 hkL
    have w1 : IntKind.i64.wrap (((L[k]).2 : Nat) - 1) = (((L[k]).2 - 1 : Nat) : Int) := wrap_pred hu0 (by omega)
    have f1 := en_fit1 hkL
    have e1 := en_set1 hkL ((L[k]).2 - 1)
    subst hS
    have hnn : hE' ≠ b ∧ hE' ≠ mb ∧ hE' ∉ s1 := nd_last hnd
    have hbm : b ≠ mb ∧ b ∉ s1 ∧ mb ∉ s1 := by
      simp only [List.nodup_cons, List.mem_cons, List.mem_append, not_or, List.nodup_append] at hnd
      exact ⟨hnd.1.1, hnd.1.2.1, hnd.2.1.1⟩
    have hl2 := (List.getElem?_eq_some_iff.1 hL).1
    have hml := (List.getElem?_eq_some_iff.1 hN).1
    have hlen : ∀ x, (L.set k x).length = L.length := fun x => List.length_set
    have gb1 : ∀ x, (setB m hE' x).hp[b]? = some ⟨false, [c1, .lsl hE' 0 E.length 2, .mapp mb]⟩ := fun x => by rw [setB_ne hnn.1]; exact hb
    have gE1 : ∀ x, (setB m hE' x).hp[hE']? = some x := fun x => setB_self hl2 x
    have gN1 : ∀ x, (setB m hE' x).hp[mb]? = some ⟨false, [.ent (nmI N)]⟩ := fun x => by rw [setB_ne hnn.2.1]; exact hN
    have hg2 : (blC enC (L.set k ((L[k]).1, (L[k]).2 - 1)))[k * 2 + 1]? = some (iA ((L[k]).2 - 1 : Nat)) := by
      have := en_get1 (L := L.set k ((L[k]).1, (L[k]).2 - 1)) (k := k) (by rw [hlen]; exact hkL)
      rw [List.getElem_set_self] at this
      exact this
    rw [if_pos rfl, Int.toNat_natCast, getD_at hk, ← hg]
    cases h5 : ((((L[k]).2 - 1 : Nat) : Int) == 0) with
    | false =>
      have h5' : (L[k]).2 ≠ 1 := fun e => by
        rw [e] at h5
        cases h5
      rw [if_neg h5']
      refine ⟨setB m hE' ⟨false, blC enC (L.set k ((L[k]).1, (L[k]).2 - 1))⟩, b :: mb :: (s1 ++ [hE']), ?_, ?_, Kp.stB (i := hE') hW (by simp) lows_blC⟩
      · refine givesW_of' Try.func12 rfl (by kernel_rfl) Try.ntmps12 rfl rfl fun Q hQ => ?_
        repeat (first
            | refine tr_seq_k fun _ _ => ?_
            | (refine tr_region ?_; simp only [go_sem, List.getElem?_toArray, str_beq, reduceCtorEq, Nat.reduceEqDiff, Nat.reduceLT, Nat.reduceLeDiff, Nat.reduceAdd, Nat.reduceMul, Nat.reduceSub, Nat.reduceBEq, ↓reduceIte, bne_self_eq_false, Bool.and_false, Bool.false_and, Bool.true_or, Bool.false_or])
            | (refine tr_draw (id := 7) follows 12 [12] [0, 1, 2, 3, 4, 5, 6, 7, 8, 9, 10, 11, 12] (by kernel_rfl) ?_; simp only [go_sem, List.getElem?_toArray, str_beq, reduceCtorEq, Nat.reduceEqDiff, Nat.reduceLT, Nat.reduceLeDiff, Nat.reduceAdd, Nat.reduceMul, Nat.reduceSub, Nat.reduceBEq, ↓reduceIte, bne_self_eq_false, Bool.and_false, Bool.false_and, Bool.true_or, Bool.false_or])
            | (refine call_givesW (hh) ?_; (try dsimp only); (try simp only [go_sem, List.getElem?_toArray, str_beq, reduceCtorEq, Nat.reduceEqDiff, Nat.reduceLT, Nat.reduceLeDiff, Nat.reduceAdd, Nat.reduceMul, Nat.reduceSub, Nat.reduceBEq, ↓reduceIte, bne_self_eq_false, Bool.and_false, Bool.false_and, Bool.true_or, Bool.false_or]))
            | refine k_of (by assumption) ?_
            | refine tr_block ?_
            | refine tr_scope ?_
            | (refine tr_skip ?_; try simp only [ex_seq, ex_block])
            | (refine tr_label ?_; try simp only [ex_seq, ex_block])
            | (refine tr_exit ?_; try simp only [ex_seq_exit, ex_block_exit, Nat.reduceEqDiff, if_true, if_false, ex_seq, ex_block, reduceCtorEq, ↓reduceIte])
            | (refine tr_ret ?_; try simp only [ex_seq_ret, ex_block_ret]))
        refine tr_cond rfl (fun ht => ?_) (fun hf => ?_)
        · cases ht
        · repeat (first
              | refine tr_seq_k fun _ _ => ?_
              | (refine tr_region ?_; simp only [go_sem, List.getElem?_toArray, str_beq, reduceCtorEq, Nat.reduceEqDiff, Nat.reduceLT, Nat.reduceLeDiff, Nat.reduceAdd, Nat.reduceMul, Nat.reduceSub, Nat.reduceBEq, ↓reduceIte, bne_self_eq_false, Bool.and_false, Bool.false_and, Bool.true_or, Bool.false_or])
              | (refine tr_draw (id := 7) follows 12 [12] [0, 1, 2, 3, 4, 5, 6, 7, 8, 9, 10, 11, 12] (by kernel_rfl) ?_; simp only [go_sem, List.getElem?_toArray, str_beq, reduceCtorEq, Nat.reduceEqDiff, Nat.reduceLT, Nat.reduceLeDiff, Nat.reduceAdd, Nat.reduceMul, Nat.reduceSub, Nat.reduceBEq, ↓reduceIte, bne_self_eq_false, Bool.and_false, Bool.false_and, Bool.true_or, Bool.false_or])
              | (refine call_givesW (hh) ?_; (try dsimp only); (try simp only [go_sem, List.getElem?_toArray, str_beq, reduceCtorEq, Nat.reduceEqDiff, Nat.reduceLT, Nat.reduceLeDiff, Nat.reduceAdd, Nat.reduceMul, Nat.reduceSub, Nat.reduceBEq, ↓reduceIte, bne_self_eq_false, Bool.and_false, Bool.false_and, Bool.true_or, Bool.false_or]))
              | refine k_of (by assumption) ?_
              | refine tr_block ?_
              | refine tr_scope ?_
              | (refine tr_skip ?_; try simp only [ex_seq, ex_block])
              | (refine tr_label ?_; try simp only [ex_seq, ex_block])
              | (refine tr_exit ?_; try simp only [ex_seq_exit, ex_block_exit, Nat.reduceEqDiff, if_true, if_false, ex_seq, ex_block, reduceCtorEq, ↓reduceIte])
              | (refine tr_ret ?_; try simp only [ex_seq_ret, ex_block_ret]))
          refine tr_cond rfl (fun ht => ?_) (fun hf => ?_)
          · cases ht
          · repeat (first
                | refine tr_seq_k fun _ _ => ?_
                | (refine tr_region ?_; simp only [go_sem, List.getElem?_toArray, str_beq, reduceCtorEq, Nat.reduceEqDiff, Nat.reduceLT, Nat.reduceLeDiff, Nat.reduceAdd, Nat.reduceMul, Nat.reduceSub, Nat.reduceBEq, ↓reduceIte, bne_self_eq_false, Bool.and_false, Bool.false_and, Bool.true_or, Bool.false_or, hb, p1, hL, i1, g1, w1, f1, e1, setB_eq, gb1, gE1, hg2, h5])
                | (refine tr_draw (id := 7) follows 12 [12] [0, 1, 2, 3, 4, 5, 6, 7, 8, 9, 10, 11, 12] (by kernel_rfl) ?_; simp only [go_sem, List.getElem?_toArray, str_beq, reduceCtorEq, Nat.reduceEqDiff, Nat.reduceLT, Nat.reduceLeDiff, Nat.reduceAdd, Nat.reduceMul, Nat.reduceSub, Nat.reduceBEq, ↓reduceIte, bne_self_eq_false, Bool.and_false, Bool.false_and, Bool.true_or, Bool.false_or, hb, p1, hL, i1, g1, w1, f1, e1, setB_eq, gb1, gE1, hg2, h5])
                | refine k_of (by assumption) ?_
                | refine tr_block ?_
                | refine tr_scope ?_
                | (refine tr_skip ?_; try simp only [ex_seq, ex_block])
                | (refine tr_label ?_; try simp only [ex_seq, ex_block])
                | (refine tr_exit ?_; try simp only [ex_seq_exit, ex_block_exit, Nat.reduceEqDiff, if_true, if_false, ex_seq, ex_block, reduceCtorEq, ↓reduceIte])
                | (refine tr_ret ?_; try simp only [ex_seq_ret, ex_block_ret]))
            refine tr_cond rfl (fun ht => ?_) (fun hf => ?_)
            · cases ht
            · repeat (first
                  | refine tr_seq_k fun _ _ => ?_
                  | (refine tr_region ?_; simp only [go_sem, List.getElem?_toArray, str_beq, reduceCtorEq, Nat.reduceEqDiff, Nat.reduceLT, Nat.reduceLeDiff, Nat.reduceAdd, Nat.reduceMul, Nat.reduceSub, Nat.reduceBEq, ↓reduceIte, bne_self_eq_false, Bool.and_false, Bool.false_and, Bool.true_or, Bool.false_or])
                  | (refine tr_draw (id := 7) follows 12 [12] [0, 1, 2, 3, 4, 5, 6, 7, 8, 9, 10, 11, 12] (by kernel_rfl) ?_; simp only [go_sem, List.getElem?_toArray, str_beq, reduceCtorEq, Nat.reduceEqDiff, Nat.reduceLT, Nat.reduceLeDiff, Nat.reduceAdd, Nat.reduceMul, Nat.reduceSub, Nat.reduceBEq, ↓reduceIte, bne_self_eq_false, Bool.and_false, Bool.false_and, Bool.true_or, Bool.false_or])
                  | refine k_of (by assumption) ?_
                  | refine tr_block ?_
                  | refine tr_scope ?_
                  | (refine tr_skip ?_; try simp only [ex_seq, ex_block])
                  | (refine tr_label ?_; try simp only [ex_seq, ex_block])
                  | (refine tr_exit ?_; try simp only [ex_seq_exit, ex_block_exit, Nat.reduceEqDiff, if_true, if_false, ex_seq, ex_block, reduceCtorEq, ↓reduceIte])
                  | (refine tr_ret ?_; try simp only [ex_seq_ret, ex_block_ret]))
              refine (hQ _ _ [iA 0] ?_ rfl rfl).2 <;> simp only [go_sem, List.getElem?_toArray, str_beq, reduceCtorEq, Nat.reduceEqDiff, Nat.reduceLT, Nat.reduceLeDiff, Nat.reduceAdd, Nat.reduceMul, Nat.reduceSub, Nat.reduceBEq, ↓reduceIte, bne_self_eq_false, Bool.and_false, Bool.false_and, Bool.true_or, Bool.false_or, Try.f12]
      · refine ⟨c1, .lsl hE' 0 E.length 2, mb, F, N, s1, [hE'], gb1 _, ?_, ?_, gN1 _, ?_, rfl, hnd⟩
        · exact hF.keep (Kp.stB (i := hE') (S := [hE']) hW (by simp) lows_blC) (fun i hi h2 => hnn.2.2 (by simp at h2; rw [← h2]; exact hi))
        · exact Or.inr ⟨hE', _, by rw [List.length_set], rfl, gE1 _, take_set hEL hk _⟩
        · rw [hg]
          exact hI.again hEk hne (by rw [← hg]; omega)
    | true =>
      have h5' : (L[k]).2 = 1 := by
        have := eq_of_beq h5
        omega
      rw [if_pos h5']
      have g0 := en_get0 (L := L.set k ((L[k]).1, (L[k]).2 - 1)) (k := k) (by rw [hlen]; exact hkL)
      rw [List.getElem_set_self] at g0
      have g0' : (blC enC (L.set k ((L[k]).1, (L[k]).2 - 1)))[k * 2]? = some (sA (L[k]).1) := g0
      have hin : ((L[k]).1, k) ∈ N := (hI.nmem _ _).2 ⟨_, by rw [hg]; exact hEk, by rw [← hg]; exact hu0⟩
      obtain ⟨j, hlk, hj⟩ := nmI_some und_str hI.nnd hin (nmI N).isEmpty
      have f0 : (k * 2 + 2 ≤ (blC enC (L.set k ((L[k]).1, (L[k]).2 - 1))).length) = True := en_fit0 (by rw [hlen]; exact hkL)
      have e2 := en_set (L := L.set k ((L[k]).1, (L[k]).2 - 1)) (k := k) (by rw [hlen]; exact hkL) (emp, 0)
      rw [List.set_set] at e2
      have e2' : List.take (k * 2) (blC enC (L.set k ((L[k]).1, (L[k]).2 - 1))) ++ [sA ⟨#[]⟩, iA 0] ++ List.drop (k * 2 + 2) (blC enC (L.set k ((L[k]).1, (L[k]).2 - 1))) = blC enC (L.set k (emp, 0)) := e2
      have k1 : Kp m (setB m hE' ⟨false, blC enC (L.set k ((L[k]).1, (L[k]).2 - 1))⟩) (b :: mb :: (s1 ++ [hE'])) (b :: mb :: (s1 ++ [hE'])) := Kp.stB (i := hE') hW (by simp) lows_blC
      have gE1 := gE1 ⟨false, blC enC (L.set k ((L[k]).1, (L[k]).2 - 1))⟩
      have gN1 := gN1 ⟨false, blC enC (L.set k ((L[k]).1, (L[k]).2 - 1))⟩
      have gb1 := gb1 ⟨false, blC enC (L.set k ((L[k]).1, (L[k]).2 - 1))⟩
      generalize hm1 : setB m hE' ⟨false, blC enC (L.set k ((L[k]).1, (L[k]).2 - 1))⟩ = m1 at *
      have hl21 := (List.getElem?_eq_some_iff.1 gE1).1
      have hml1 := (List.getElem?_eq_some_iff.1 gN1).1
      have k2 := k1.put (i := mb) (nb := ⟨false, [.ent (nmI (N.eraseIdx j))]⟩) (by simp) rfl
      have gE2 : (setB m1 mb ⟨false, [.ent (nmI (N.eraseIdx j))]⟩).hp[hE']? = some ⟨false, blC enC (L.set k ((L[k]).1, (L[k]).2 - 1))⟩ := by rw [setB_ne (Ne.symm hnn.2.1)]; exact gE1
      have gN2 := setB_self hml1 (⟨false, [.ent (nmI (N.eraseIdx j))]⟩ : Blk)
      have gb2 : (setB m1 mb ⟨false, [.ent (nmI (N.eraseIdx j))]⟩).hp[b]? = some ⟨false, [c1, .lsl hE' 0 E.length 2, .mapp mb]⟩ := by rw [setB_ne (Ne.symm hbm.1)]; exact gb1
      generalize hm2 : setB m1 mb ⟨false, [.ent (nmI (N.eraseIdx j))]⟩ = m2 at *
      have hl22 := (List.getElem?_eq_some_iff.1 gE2).1
      have k3 := k2.put (i := hE') (nb := ⟨false, blC enC (L.set k (emp, 0))⟩) (by simp) lows_blC
      have gE3 := setB_self hl22 (⟨false, blC enC (L.set k (emp, 0))⟩ : Blk)
      have gN3 : (setB m2 hE' ⟨false, blC enC (L.set k (emp, 0))⟩).hp[mb]? = some ⟨false, [.ent (nmI (N.eraseIdx j))]⟩ := by rw [setB_ne hnn.2.1]; exact gN2
      have gb3 : (setB m2 hE' ⟨false, blC enC (L.set k (emp, 0))⟩).hp[b]? = some ⟨false, [c1, .lsl hE' 0 E.length 2, .mapp mb]⟩ := by rw [setB_ne hnn.1]; exact gb2
      generalize hm3 : setB m2 hE' ⟨false, blC enC (L.set k (emp, 0))⟩ = m3 at *
      have hF3 : RowAt m3 inC 1 c1 F s1 := by
        rcases hF with hF | ⟨h', L', q1, q2, q3, q4⟩
        · exact Or.inl hF
        · refine Or.inr ⟨h', L', q1, q2, ?_, q4⟩
          subst q2
          have t1 : hE' ≠ h' := fun e => hnn.2.2 (by simp [e])
          have t2 : mb ≠ h' := fun e => hbm.2.2 (by simp [e])
          rw [← hm3, setB_ne t1, ← hm2, setB_ne t2, ← hm1, setB_ne t1]
          exact q3
      have hFl : F.length ≤ 1000 := Nat.le_trans hI.free_le hM
      obtain ⟨m4, h4, c6, gb4, gF4, hb4, k4⟩ := hpush gb3 hF3 hbm.2.1 k3.wf (k : Int) (by omega)
      have k5 : Kp m m4 (b :: mb :: (s1 ++ [hE'])) (b :: mb :: ([h4] ++ [hE'])) := k3.trans (k4.mono (fun i hi => by
        simp only [List.mem_cons, List.mem_append] at hi ⊢
        rcases hi with hi | hi
        · exact Or.inl hi
        · exact Or.inr (Or.inr (Or.inl hi))) (fun i hi => by
        simp only [List.mem_cons, List.mem_append, List.not_mem_nil, or_false] at hi ⊢
        rcases hi with hi | hi | hi | hi
        · exact Or.inl (Or.inl hi)
        · exact Or.inr (Or.inr (Or.inl hi))
        · exact Or.inl (Or.inr hi)
        · exact Or.inr (Or.inr (Or.inr (Or.inr hi)))))
      have hnew : h4 ≠ mb ∧ h4 ≠ hE' := by
        rcases k4.new h4 (by simp) with hq | hq
        · simp only [List.mem_cons] at hq
          rcases hq with hq | hq
          · exact absurd hq hb4
          · exact ⟨fun e => hbm.2.2 (by rw [← e]; exact hq), fun e => hnn.2.2 (by rw [← e]; exact hq)⟩
        · have q1 := (List.getElem?_eq_some_iff.1 gN3).1
          have q2 := (List.getElem?_eq_some_iff.1 gE3).1
          exact ⟨by omega, by omega⟩
      refine ⟨m4, b :: mb :: ([h4] ++ [hE']), ?_, ?_, k5⟩
      · refine givesW_of' Try.func12 rfl (by kernel_rfl) Try.ntmps12 rfl rfl fun Q hQ => ?_
        repeat (first
            | refine tr_seq_k fun _ _ => ?_
            | (refine tr_region ?_; simp only [go_sem, List.getElem?_toArray, str_beq, reduceCtorEq, Nat.reduceEqDiff, Nat.reduceLT, Nat.reduceLeDiff, Nat.reduceAdd, Nat.reduceMul, Nat.reduceSub, Nat.reduceBEq, ↓reduceIte, bne_self_eq_false, Bool.and_false, Bool.false_and, Bool.true_or, Bool.false_or])
            | (refine tr_draw (id := 7) follows 12 [12] [0, 1, 2, 3, 4, 5, 6, 7, 8, 9, 10, 11, 12] (by kernel_rfl) ?_; simp only [go_sem, List.getElem?_toArray, str_beq, reduceCtorEq, Nat.reduceEqDiff, Nat.reduceLT, Nat.reduceLeDiff, Nat.reduceAdd, Nat.reduceMul, Nat.reduceSub, Nat.reduceBEq, ↓reduceIte, bne_self_eq_false, Bool.and_false, Bool.false_and, Bool.true_or, Bool.false_or])
            | (refine call_givesW (hh) ?_; (try dsimp only); (try simp only [go_sem, List.getElem?_toArray, str_beq, reduceCtorEq, Nat.reduceEqDiff, Nat.reduceLT, Nat.reduceLeDiff, Nat.reduceAdd, Nat.reduceMul, Nat.reduceSub, Nat.reduceBEq, ↓reduceIte, bne_self_eq_false, Bool.and_false, Bool.false_and, Bool.true_or, Bool.false_or]))
            | refine k_of (by assumption) ?_
            | refine tr_block ?_
            | refine tr_scope ?_
            | (refine tr_skip ?_; try simp only [ex_seq, ex_block])
            | (refine tr_label ?_; try simp only [ex_seq, ex_block])
            | (refine tr_exit ?_; try simp only [ex_seq_exit, ex_block_exit, Nat.reduceEqDiff, if_true, if_false, ex_seq, ex_block, reduceCtorEq, ↓reduceIte])
            | (refine tr_ret ?_; try simp only [ex_seq_ret, ex_block_ret]))
        refine tr_cond rfl (fun ht => ?_) (fun hf => ?_)
        · cases ht
        · repeat (first
              | refine tr_seq_k fun _ _ => ?_
              | (refine tr_region ?_; simp only [go_sem, List.getElem?_toArray, str_beq, reduceCtorEq, Nat.reduceEqDiff, Nat.reduceLT, Nat.reduceLeDiff, Nat.reduceAdd, Nat.reduceMul, Nat.reduceSub, Nat.reduceBEq, ↓reduceIte, bne_self_eq_false, Bool.and_false, Bool.false_and, Bool.true_or, Bool.false_or])
              | (refine tr_draw (id := 7) follows 12 [12] [0, 1, 2, 3, 4, 5, 6, 7, 8, 9, 10, 11, 12] (by kernel_rfl) ?_; simp only [go_sem, List.getElem?_toArray, str_beq, reduceCtorEq, Nat.reduceEqDiff, Nat.reduceLT, Nat.reduceLeDiff, Nat.reduceAdd, Nat.reduceMul, Nat.reduceSub, Nat.reduceBEq, ↓reduceIte, bne_self_eq_false, Bool.and_false, Bool.false_and, Bool.true_or, Bool.false_or])
              | (refine call_givesW (hh) ?_; (try dsimp only); (try simp only [go_sem, List.getElem?_toArray, str_beq, reduceCtorEq, Nat.reduceEqDiff, Nat.reduceLT, Nat.reduceLeDiff, Nat.reduceAdd, Nat.reduceMul, Nat.reduceSub, Nat.reduceBEq, ↓reduceIte, bne_self_eq_false, Bool.and_false, Bool.false_and, Bool.true_or, Bool.false_or]))
              | refine k_of (by assumption) ?_
              | refine tr_block ?_
              | refine tr_scope ?_
              | (refine tr_skip ?_; try simp only [ex_seq, ex_block])
              | (refine tr_label ?_; try simp only [ex_seq, ex_block])
              | (refine tr_exit ?_; try simp only [ex_seq_exit, ex_block_exit, Nat.reduceEqDiff, if_true, if_false, ex_seq, ex_block, reduceCtorEq, ↓reduceIte])
              | (refine tr_ret ?_; try simp only [ex_seq_ret, ex_block_ret]))
          refine tr_cond rfl (fun ht => ?_) (fun hf => ?_)
          · cases ht
          · repeat (first
                | refine tr_seq_k fun _ _ => ?_
                | (refine tr_region ?_; simp only [go_sem, List.getElem?_toArray, str_beq, reduceCtorEq, Nat.reduceEqDiff, Nat.reduceLT, Nat.reduceLeDiff, Nat.reduceAdd, Nat.reduceMul, Nat.reduceSub, Nat.reduceBEq, ↓reduceIte, bne_self_eq_false, Bool.and_false, Bool.false_and, Bool.true_or, Bool.false_or, hb, p1, hL, i1, g1, w1, f1, e1, setB_eq, hm1, gb1, gE1, hg2, h5])
                | (refine tr_draw (id := 7) follows 12 [12] [0, 1, 2, 3, 4, 5, 6, 7, 8, 9, 10, 11, 12] (by kernel_rfl) ?_; simp only [go_sem, List.getElem?_toArray, str_beq, reduceCtorEq, Nat.reduceEqDiff, Nat.reduceLT, Nat.reduceLeDiff, Nat.reduceAdd, Nat.reduceMul, Nat.reduceSub, Nat.reduceBEq, ↓reduceIte, bne_self_eq_false, Bool.and_false, Bool.false_and, Bool.true_or, Bool.false_or, hb, p1, hL, i1, g1, w1, f1, e1, setB_eq, hm1, gb1, gE1, hg2, h5])
                | refine k_of (by assumption) ?_
                | refine tr_block ?_
                | refine tr_scope ?_
                | (refine tr_skip ?_; try simp only [ex_seq, ex_block])
                | (refine tr_label ?_; try simp only [ex_seq, ex_block])
                | (refine tr_exit ?_; try simp only [ex_seq_exit, ex_block_exit, Nat.reduceEqDiff, if_true, if_false, ex_seq, ex_block, reduceCtorEq, ↓reduceIte])
                | (refine tr_ret ?_; try simp only [ex_seq_ret, ex_block_ret]))
            refine tr_cond rfl (fun ht => ?_) (fun hf => ?_)
            · repeat (first
                  | refine tr_seq_k fun _ _ => ?_
                  | (refine tr_region ?_; simp only [go_sem, List.getElem?_toArray, str_beq, reduceCtorEq, Nat.reduceEqDiff, Nat.reduceLT, Nat.reduceLeDiff, Nat.reduceAdd, Nat.reduceMul, Nat.reduceSub, Nat.reduceBEq, ↓reduceIte, bne_self_eq_false, Bool.and_false, Bool.false_and, Bool.true_or, Bool.false_or, gb1, p1, gE1, i1, g0', gN1, setB_eq, aMapDel, mDel, hlk, nmI_erase, hm2, gb2, gE2, f0, e2', hm3, gb3])
                  | (refine tr_draw (id := 7) follows 12 [12] [0, 1, 2, 3, 4, 5, 6, 7, 8, 9, 10, 11, 12] (by kernel_rfl) ?_; simp only [go_sem, List.getElem?_toArray, str_beq, reduceCtorEq, Nat.reduceEqDiff, Nat.reduceLT, Nat.reduceLeDiff, Nat.reduceAdd, Nat.reduceMul, Nat.reduceSub, Nat.reduceBEq, ↓reduceIte, bne_self_eq_false, Bool.and_false, Bool.false_and, Bool.true_or, Bool.false_or, gb1, p1, gE1, i1, g0', gN1, setB_eq, aMapDel, mDel, hlk, nmI_erase, hm2, gb2, gE2, f0, e2', hm3, gb3])
                  | (refine call_givesW (c6) ?_; (try dsimp only); (try simp only [go_sem, List.getElem?_toArray, str_beq, reduceCtorEq, Nat.reduceEqDiff, Nat.reduceLT, Nat.reduceLeDiff, Nat.reduceAdd, Nat.reduceMul, Nat.reduceSub, Nat.reduceBEq, ↓reduceIte, bne_self_eq_false, Bool.and_false, Bool.false_and, Bool.true_or, Bool.false_or, gb1, p1, gE1, i1, g0', gN1, setB_eq, aMapDel, mDel, hlk, nmI_erase, hm2, gb2, gE2, f0, e2', hm3, gb3]))
                  | refine k_of (by assumption) ?_
                  | refine tr_block ?_
                  | refine tr_scope ?_
                  | (refine tr_skip ?_; try simp only [ex_seq, ex_block])
                  | (refine tr_label ?_; try simp only [ex_seq, ex_block])
                  | (refine tr_exit ?_; try simp only [ex_seq_exit, ex_block_exit, Nat.reduceEqDiff, if_true, if_false, ex_seq, ex_block, reduceCtorEq, ↓reduceIte])
                  | (refine tr_ret ?_; try simp only [ex_seq_ret, ex_block_ret]))
              refine (hQ _ _ [iA 0] ?_ rfl rfl).2 <;> simp only [go_sem, List.getElem?_toArray, str_beq, reduceCtorEq, Nat.reduceEqDiff, Nat.reduceLT, Nat.reduceLeDiff, Nat.reduceAdd, Nat.reduceMul, Nat.reduceSub, Nat.reduceBEq, ↓reduceIte, bne_self_eq_false, Bool.and_false, Bool.false_and, Bool.true_or, Bool.false_or, Try.f12]
            · cases hf
      · refine ⟨.lsl h4 0 (F.length + 1) 1, .lsl hE' 0 E.length 2, mb, pushF F k, N.eraseIdx j, [h4], [hE'], gb4, ?_, ?_, ?_, ?_, rfl, ?_⟩
        · have hp := push_ok hI.heap (k : Int)
          have e : (pushF F k).length = F.length + 1 := by rw [hp.2.length_eq]; simp
          exact Or.inr ⟨h4, pushF F k, by rw [e], rfl, gF4, by rw [e, List.take_of_length_le (by omega)]⟩
        · refine Or.inr ⟨hE', L.set k (emp, 0), by rw [List.length_set], rfl, k4.old _ _ ?_ gE3, take_set hEL hk _⟩
          simp only [List.mem_cons, not_or]
          exact ⟨hnn.1, hnn.2.2⟩
        · refine k4.old _ _ ?_ gN3
          simp only [List.mem_cons, not_or]
          exact ⟨Ne.symm hbm.1, hbm.2.2⟩
        · have hp := push_ok hI.heap (k : Int)
          rw [hg] at hj
          exact hI.gone hEk hne hp.2 hp.1 hj
        · simp only [List.cons_append, List.nil_append, List.nodup_cons, List.mem_cons, List.not_mem_nil, or_false, not_or, not_false_eq_true, List.nodup_nil, and_true]
          exact ⟨⟨hbm.1, Ne.symm hb4, Ne.symm hnn.1⟩, ⟨Ne.symm hnew.1, Ne.symm hnn.2.1⟩, hnew.2⟩
end Go.Proofs.Ytlhlcfijpdknfaa

/-
  Chapter 2: a text so many times; the chapter's example.
-/
set_option linter.unusedSimpArgs false
set_option linter.unusedVariables false
namespace Go.Proofs.Ytlhlcfijpdknfaa
open Go.Vs Go.Vs.Ab Go.Vs.Hp Go.Vs.Tb
set_option maxRecDepth 100000
set_option maxHeartbeats 4000000

def repS (s : ByteArray) : Nat → ByteArray
  | 0 => emp
  | n + 1 => s ++ repS s n
theorem emp_append (s : ByteArray) : emp ++ s = s := ByteArray.empty_append
theorem append_emp (s : ByteArray) : s ++ emp = s := ByteArray.append_empty
theorem repS_two (s : ByteArray) : ∀ k, repS (s ++ s) k = repS s (2 * k)
  | 0 => rfl
  | k + 1 => by
    rw [show 2 * (k + 1) = 2 * k + 1 + 1 by omega]
    simp only [repS, repS_two s k, ByteArray.append_assoc]
theorem repS_size (s : ByteArray) : ∀ n, (repS s n).size = n * s.size
  | 0 => by simp [repS, emp]; rfl
  | n + 1 => by simp only [repS, ByteArray.size_append, repS_size s n, Nat.add_mul]; omega

theorem times_does {s : ByteArray} {n : Nat} (hs : s.size * n ≤ 1000000) (hn : n ≤ 1000000) : Does Try.prog 11 [sA s, iA n] (fun m => (sA (repS s n), m)) := by
  refine does_of' Try.func11 rfl (by kernel_rfl) rfl Try.ntmps11 rfl rfl fun Q hQ => ?_
  repeat (first
      | refine tr_seq_k fun _ _ => ?_
      | (refine tr_region ?_; simp only [go_sem, List.getElem?_toArray, str_beq, reduceCtorEq, Nat.reduceEqDiff, Nat.reduceLT, Nat.reduceLeDiff, Nat.reduceAdd, Nat.reduceMul, Nat.reduceSub, Nat.reduceBEq, ↓reduceIte, bne_self_eq_false, Bool.and_false, Bool.false_and, Bool.true_or, Bool.false_or])
      | refine k_of (by assumption) ?_
      | refine tr_block ?_
      | refine tr_scope ?_
      | (refine tr_skip ?_; try simp only [ex_seq, ex_block])
      | (refine tr_label ?_; try simp only [ex_seq, ex_block])
      | (refine tr_exit ?_; try simp only [ex_seq_exit, ex_block_exit, Nat.reduceEqDiff, if_true, if_false, ex_seq, ex_block, reduceCtorEq, ↓reduceIte])
      | (refine tr_ret ?_; try simp only [ex_seq_ret, ex_block_ret]))
  refine tr_loop_k (σ := ByteArray × ByteArray × Nat) (fun q => [(0, sA q.2.1), (1, iA q.2.2), (5, sA q.1)]) (fun _ => ⟨[], []⟩)
    (fun q => q.1 ++ repS q.2.1 q.2.2 = repS s n ∧ q.1.size + q.2.1.size * q.2.2 ≤ 1000000 ∧ q.2.2 ≤ 1000000) (fun q => q.2.2) (emp, s, n) ⟨emp_append _, by show 0 + s.size * n ≤ _; omega, hn⟩ ⟨rfl, rfl, rfl, trivial⟩ rfl ?_
  rintro ⟨o, t, k⟩ ⟨h1, h2, h3⟩ K hK
  dsimp only at h1 h2 h3 hK
  have two : ¬ (2 : Int) = 0 := by decide
  have hgt : ((k : Int) > 0) = ((0 : Int) < (k : Nat)) := rfl
  by_cases hk : k = 0
  · have d1 : decide ((0 : Int) < (k : Nat)) = false := decide_eq_false (by omega)
    have e1 : o = repS s n := by
      rw [← h1, hk]
      exact (append_emp o).symm
    repeat (first
        | refine tr_seq_k fun _ _ => ?_
        | (refine tr_region ?_; simp only [go_sem, List.getElem?_toArray, str_beq, reduceCtorEq, Nat.reduceEqDiff, Nat.reduceLT, Nat.reduceLeDiff, Nat.reduceAdd, Nat.reduceMul, Nat.reduceSub, Nat.reduceBEq, ↓reduceIte, bne_self_eq_false, Bool.and_false, Bool.false_and, Bool.true_or, Bool.false_or, d1])
        | refine k_of (by assumption) ?_
        | refine tr_block ?_
        | refine tr_scope ?_
        | (refine tr_skip ?_; try simp only [ex_seq, ex_block])
        | (refine tr_label ?_; try simp only [ex_seq, ex_block])
        | (refine tr_exit ?_; try simp only [ex_seq_exit, ex_block_exit, Nat.reduceEqDiff, if_true, if_false, ex_seq, ex_block, reduceCtorEq, ↓reduceIte])
        | (refine tr_ret ?_; try simp only [ex_seq_ret, ex_block_ret]))
    refine tr_cond rfl (fun ht => ?_) (fun hf => ?_)
    · cases ht
    · repeat (first
          | refine tr_seq_k fun _ _ => ?_
          | (refine tr_region ?_; simp only [go_sem, List.getElem?_toArray, str_beq, reduceCtorEq, Nat.reduceEqDiff, Nat.reduceLT, Nat.reduceLeDiff, Nat.reduceAdd, Nat.reduceMul, Nat.reduceSub, Nat.reduceBEq, ↓reduceIte, bne_self_eq_false, Bool.and_false, Bool.false_and, Bool.true_or, Bool.false_or])
          | refine k_of (by assumption) ?_
          | refine tr_block ?_
          | refine tr_scope ?_
          | (refine tr_skip ?_; try simp only [ex_seq, ex_block])
          | (refine tr_label ?_; try simp only [ex_seq, ex_block])
          | (refine tr_exit ?_; try simp only [ex_seq_exit, ex_block_exit, Nat.reduceEqDiff, if_true, if_false, ex_seq, ex_block, reduceCtorEq, ↓reduceIte])
          | (refine tr_ret ?_; try simp only [ex_seq_ret, ex_block_ret]))
      refine (hQ _ _ [sA o] ?_ (fun m => ?_)).2 <;> simp only [go_sem, List.getElem?_toArray, str_beq, reduceCtorEq, Nat.reduceEqDiff, Nat.reduceLT, Nat.reduceLeDiff, Nat.reduceAdd, Nat.reduceMul, Nat.reduceSub, Nat.reduceBEq, ↓reduceIte, bne_self_eq_false, Bool.and_false, Bool.false_and, Bool.true_or, Bool.false_or, Try.f11, e1]
  · have d1 : decide ((0 : Int) < (k : Nat)) = true := decide_eq_true (by omega)
    have ht1 : t.size ≤ 1000000 := by
      have : t.size * 1 ≤ t.size * k := Nat.mul_le_mul_left _ (by omega)
      omega
    have w1 : IntKind.i64.wrap ((k : Int).tdiv 2) = ((k / 2 : Nat) : Int) := by
      rw [Int.tdiv_eq_ediv_of_nonneg (by omega), wrap_in (by omega)]
      omega
    have w2 : (k : Int).tmod 2 = ((k % 2 : Nat) : Int) := by
      rw [Int.tmod_eq_emod_of_nonneg (by omega)]
      omega
    have sa : t.size + t.size ≤ 9223372036854775807 := by omega
    have so : o.size + t.size ≤ 9223372036854775807 := by omega
    cases h5 : (((k % 2 : Nat) : Int) == 1) with
    | true =>
      have h5' : k % 2 = 1 := by
        have := eq_of_beq h5
        omega
      repeat (first
          | refine tr_seq_k fun _ _ => ?_
          | (refine tr_region ?_; simp only [go_sem, List.getElem?_toArray, str_beq, reduceCtorEq, Nat.reduceEqDiff, Nat.reduceLT, Nat.reduceLeDiff, Nat.reduceAdd, Nat.reduceMul, Nat.reduceSub, Nat.reduceBEq, ↓reduceIte, bne_self_eq_false, Bool.and_false, Bool.false_and, Bool.true_or, Bool.false_or, d1, two, w2, h5])
          | refine k_of (by assumption) ?_
          | refine tr_block ?_
          | refine tr_scope ?_
          | (refine tr_skip ?_; try simp only [ex_seq, ex_block])
          | (refine tr_label ?_; try simp only [ex_seq, ex_block])
          | (refine tr_exit ?_; try simp only [ex_seq_exit, ex_block_exit, Nat.reduceEqDiff, if_true, if_false, ex_seq, ex_block, reduceCtorEq, ↓reduceIte])
          | (refine tr_ret ?_; try simp only [ex_seq_ret, ex_block_ret]))
      refine tr_cond rfl (fun ht => ?_) (fun hf => ?_)
      · repeat (first
            | refine tr_seq_k fun _ _ => ?_
            | (refine tr_region ?_; simp only [go_sem, List.getElem?_toArray, str_beq, reduceCtorEq, Nat.reduceEqDiff, Nat.reduceLT, Nat.reduceLeDiff, Nat.reduceAdd, Nat.reduceMul, Nat.reduceSub, Nat.reduceBEq, ↓reduceIte, bne_self_eq_false, Bool.and_false, Bool.false_and, Bool.true_or, Bool.false_or, d1, two, w2, h5])
            | refine k_of (by assumption) ?_
            | refine tr_block ?_
            | refine tr_scope ?_
            | (refine tr_skip ?_; try simp only [ex_seq, ex_block])
            | (refine tr_label ?_; try simp only [ex_seq, ex_block])
            | (refine tr_exit ?_; try simp only [ex_seq_exit, ex_block_exit, Nat.reduceEqDiff, if_true, if_false, ex_seq, ex_block, reduceCtorEq, ↓reduceIte])
            | (refine tr_ret ?_; try simp only [ex_seq_ret, ex_block_ret]))
        refine tr_cond rfl (fun ht => ?_) (fun hf => ?_)
        · repeat (first
              | refine tr_seq_k fun _ _ => ?_
              | (refine tr_region ?_; simp only [go_sem, List.getElem?_toArray, str_beq, reduceCtorEq, Nat.reduceEqDiff, Nat.reduceLT, Nat.reduceLeDiff, Nat.reduceAdd, Nat.reduceMul, Nat.reduceSub, Nat.reduceBEq, ↓reduceIte, bne_self_eq_false, Bool.and_false, Bool.false_and, Bool.true_or, Bool.false_or, so_add so, so_add sa, two, w1])
              | refine k_of (by assumption) ?_
              | refine tr_block ?_
              | refine tr_scope ?_
              | (refine tr_skip ?_; try simp only [ex_seq, ex_block])
              | (refine tr_label ?_; try simp only [ex_seq, ex_block])
              | (refine tr_exit ?_; try simp only [ex_seq_exit, ex_block_exit, Nat.reduceEqDiff, if_true, if_false, ex_seq, ex_block, reduceCtorEq, ↓reduceIte])
              | (refine tr_ret ?_; try simp only [ex_seq_ret, ex_block_ret]))
          refine hK (o ++ t, t ++ t, k / 2) _ _ ⟨?_, ?_, by dsimp only; omega⟩ ⟨⟨rfl, rfl, rfl, trivial⟩, Keep.refl _, rfl, rfl, Nat.le_refl _, Nat.le_refl _⟩ (by dsimp only; omega)
          · dsimp only
            have e : k = 2 * (k / 2) + 1 := by omega
            rw [repS_two, ← h1]
            conv => rhs; rw [e]
            simp only [repS, ByteArray.append_assoc]
          · have e : k = 2 * (k / 2) + 1 := by omega
            have e2 : t.size * k = t.size * (2 * (k / 2)) + t.size := by
              conv => lhs; rw [e]
              rw [Nat.mul_add, Nat.mul_one]
            have e3 : (t.size + t.size) * (k / 2) = t.size * (2 * (k / 2)) := by rw [← Nat.two_mul, Nat.mul_comm 2, Nat.mul_assoc]
            simp only [ByteArray.size_append, e3]
            omega
        · cases hf
      · cases hf
    | false =>
      have h5' : ¬ k % 2 = 1 := by
        have := ne_of_beq_false h5
        omega
      repeat (first
          | refine tr_seq_k fun _ _ => ?_
          | (refine tr_region ?_; simp only [go_sem, List.getElem?_toArray, str_beq, reduceCtorEq, Nat.reduceEqDiff, Nat.reduceLT, Nat.reduceLeDiff, Nat.reduceAdd, Nat.reduceMul, Nat.reduceSub, Nat.reduceBEq, ↓reduceIte, bne_self_eq_false, Bool.and_false, Bool.false_and, Bool.true_or, Bool.false_or, d1, two, w2, h5])
          | refine k_of (by assumption) ?_
          | refine tr_block ?_
          | refine tr_scope ?_
          | (refine tr_skip ?_; try simp only [ex_seq, ex_block])
          | (refine tr_label ?_; try simp only [ex_seq, ex_block])
          | (refine tr_exit ?_; try simp only [ex_seq_exit, ex_block_exit, Nat.reduceEqDiff, if_true, if_false, ex_seq, ex_block, reduceCtorEq, ↓reduceIte])
          | (refine tr_ret ?_; try simp only [ex_seq_ret, ex_block_ret]))
      refine tr_cond rfl (fun ht => ?_) (fun hf => ?_)
      · repeat (first
            | refine tr_seq_k fun _ _ => ?_
            | (refine tr_region ?_; simp only [go_sem, List.getElem?_toArray, str_beq, reduceCtorEq, Nat.reduceEqDiff, Nat.reduceLT, Nat.reduceLeDiff, Nat.reduceAdd, Nat.reduceMul, Nat.reduceSub, Nat.reduceBEq, ↓reduceIte, bne_self_eq_false, Bool.and_false, Bool.false_and, Bool.true_or, Bool.false_or, d1, two, w2, h5])
            | refine k_of (by assumption) ?_
            | refine tr_block ?_
            | refine tr_scope ?_
            | (refine tr_skip ?_; try simp only [ex_seq, ex_block])
            | (refine tr_label ?_; try simp only [ex_seq, ex_block])
            | (refine tr_exit ?_; try simp only [ex_seq_exit, ex_block_exit, Nat.reduceEqDiff, if_true, if_false, ex_seq, ex_block, reduceCtorEq, ↓reduceIte])
            | (refine tr_ret ?_; try simp only [ex_seq_ret, ex_block_ret]))
        refine tr_cond rfl (fun ht => ?_) (fun hf => ?_)
        · cases ht
        · repeat (first
              | refine tr_seq_k fun _ _ => ?_
              | (refine tr_region ?_; simp only [go_sem, List.getElem?_toArray, str_beq, reduceCtorEq, Nat.reduceEqDiff, Nat.reduceLT, Nat.reduceLeDiff, Nat.reduceAdd, Nat.reduceMul, Nat.reduceSub, Nat.reduceBEq, ↓reduceIte, bne_self_eq_false, Bool.and_false, Bool.false_and, Bool.true_or, Bool.false_or, so_add so, so_add sa, two, w1])
              | refine k_of (by assumption) ?_
              | refine tr_block ?_
              | refine tr_scope ?_
              | (refine tr_skip ?_; try simp only [ex_seq, ex_block])
              | (refine tr_label ?_; try simp only [ex_seq, ex_block])
              | (refine tr_exit ?_; try simp only [ex_seq_exit, ex_block_exit, Nat.reduceEqDiff, if_true, if_false, ex_seq, ex_block, reduceCtorEq, ↓reduceIte])
              | (refine tr_ret ?_; try simp only [ex_seq_ret, ex_block_ret]))
          have e : k = 2 * (k / 2) := by omega
          refine hK (o, t ++ t, k / 2) _ _ ⟨?_, ?_, by dsimp only; omega⟩ ⟨⟨rfl, rfl, rfl, trivial⟩, Keep.refl _, rfl, rfl, Nat.le_refl _, Nat.le_refl _⟩ (by dsimp only; omega)
          · dsimp only
            rw [repS_two, ← h1]
            conv => rhs; rw [e]
          · have e2 : t.size * k = t.size * (2 * (k / 2)) := by
              conv => lhs; rw [e]
            have e3 : (t.size + t.size) * (k / 2) = t.size * (2 * (k / 2)) := by rw [← Nat.two_mul, Nat.mul_comm 2, Nat.mul_assoc]
            simp only [ByteArray.size_append, e3]
            omega
      · cases hf

theorem kp_wf {m m' : Mm} {S S' : List Nat} (k : Kp m m' S S') : Wf m' := k.wf
theorem wf0 : Wf ⟨[], []⟩ := rfl
theorem lives_does : Does Try.prog 7 [] (fun m => (bA true, m)) := by
  obtain ⟨m0, b, S0, c0, t0, k0⟩ := new_gives wf0
  obtain ⟨m1, S1, c1, t1, k1⟩ := take_tab t0 k0.wf ⟨#[97]⟩ (by decide) (by decide)
  have e1 : takeS [] ⟨#[97]⟩ = ((0, 0), [(⟨#[97]⟩, 1)]) := by decide
  rw [e1] at c1 t1
  obtain ⟨m2, S2, c2, t2, k2⟩ := take_tab t1 k1.wf ⟨#[98]⟩ (by decide) (by decide)
  have e2 : takeS [(⟨#[97]⟩, 1)] ⟨#[98]⟩ = ((1, 0), [(⟨#[97]⟩, 1), (⟨#[98]⟩, 1)]) := by decide
  rw [e2] at c2 t2
  obtain ⟨m3, S3, c3, t3, k3⟩ := take_tab t2 k2.wf ⟨#[97]⟩ (by decide) (by decide)
  have e3 : takeS [(⟨#[97]⟩, 1), (⟨#[98]⟩, 1)] ⟨#[97]⟩ = ((0, 0), [(⟨#[97]⟩, 2), (⟨#[98]⟩, 1)]) := by decide
  rw [e3] at c3 t3
  obtain ⟨m4, S4, c4, t4, k4⟩ := drop_tab t3 k3.wf 0 (by decide) (by decide)
  have e4 : dropS [(⟨#[97]⟩, 2), (⟨#[98]⟩, 1)] 0 = (0, [(⟨#[97]⟩, 1), (⟨#[98]⟩, 1)]) := by decide
  rw [e4] at c4 t4
  obtain ⟨m5, S5, c5, t5, k5⟩ := drop_tab t4 k4.wf 0 (by decide) (by decide)
  have e5 : dropS [(⟨#[97]⟩, 1), (⟨#[98]⟩, 1)] 0 = (0, [(emp, 0), (⟨#[98]⟩, 1)]) := by decide
  rw [e5] at c5 t5
  obtain ⟨m6, S6, c6, t6, k6⟩ := take_tab t5 k5.wf ⟨#[99]⟩ (by decide) (by decide)
  have e6 : takeS [(emp, 0), (⟨#[98]⟩, 1)] ⟨#[99]⟩ = ((0, 0), [(⟨#[99]⟩, 1), (⟨#[98]⟩, 1)]) := by decide
  rw [e6] at c6 t6
  refine does_of' Try.func7 rfl (by kernel_rfl) rfl Try.ntmps7 rfl rfl fun Q hQ => ?_
  have z0 : ((0 : Nat) : Int) = 0 := rfl
  have z1 : ((1 : Nat) : Int) = 1 := rfl
  repeat (first
      | refine tr_seq_k fun _ _ => ?_
      | (refine tr_region ?_; simp only [go_sem, List.getElem?_toArray, str_beq, reduceCtorEq, Nat.reduceEqDiff, Nat.reduceLT, Nat.reduceLeDiff, Nat.reduceAdd, Nat.reduceMul, Nat.reduceSub, Nat.reduceBEq, ↓reduceIte, bne_self_eq_false, Bool.and_false, Bool.false_and, Bool.true_or, Bool.false_or, z0, z1])
      | (refine call_givesW (c0) ?_; (try dsimp only); (try simp only [go_sem, List.getElem?_toArray, str_beq, reduceCtorEq, Nat.reduceEqDiff, Nat.reduceLT, Nat.reduceLeDiff, Nat.reduceAdd, Nat.reduceMul, Nat.reduceSub, Nat.reduceBEq, ↓reduceIte, bne_self_eq_false, Bool.and_false, Bool.false_and, Bool.true_or, Bool.false_or, z0, z1]))
      | (refine call_givesW (c1) ?_; (try dsimp only); (try simp only [go_sem, List.getElem?_toArray, str_beq, reduceCtorEq, Nat.reduceEqDiff, Nat.reduceLT, Nat.reduceLeDiff, Nat.reduceAdd, Nat.reduceMul, Nat.reduceSub, Nat.reduceBEq, ↓reduceIte, bne_self_eq_false, Bool.and_false, Bool.false_and, Bool.true_or, Bool.false_or, z0, z1]))
      | (refine call_givesW (c2) ?_; (try dsimp only); (try simp only [go_sem, List.getElem?_toArray, str_beq, reduceCtorEq, Nat.reduceEqDiff, Nat.reduceLT, Nat.reduceLeDiff, Nat.reduceAdd, Nat.reduceMul, Nat.reduceSub, Nat.reduceBEq, ↓reduceIte, bne_self_eq_false, Bool.and_false, Bool.false_and, Bool.true_or, Bool.false_or, z0, z1]))
      | (refine call_givesW (c3) ?_; (try dsimp only); (try simp only [go_sem, List.getElem?_toArray, str_beq, reduceCtorEq, Nat.reduceEqDiff, Nat.reduceLT, Nat.reduceLeDiff, Nat.reduceAdd, Nat.reduceMul, Nat.reduceSub, Nat.reduceBEq, ↓reduceIte, bne_self_eq_false, Bool.and_false, Bool.false_and, Bool.true_or, Bool.false_or, z0, z1]))
      | refine k_of (by assumption) ?_
      | refine tr_block ?_
      | refine tr_scope ?_
      | (refine tr_skip ?_; try simp only [ex_seq, ex_block])
      | (refine tr_label ?_; try simp only [ex_seq, ex_block])
      | (refine tr_exit ?_; try simp only [ex_seq_exit, ex_block_exit, Nat.reduceEqDiff, if_true, if_false, ex_seq, ex_block, reduceCtorEq, ↓reduceIte])
      | (refine tr_ret ?_; try simp only [ex_seq_ret, ex_block_ret]))
  refine tr_cond rfl (fun ht => ?_) (fun hf => ?_)
  · cases ht
  · repeat (first
        | refine tr_seq_k fun _ _ => ?_
        | (refine tr_region ?_; simp only [go_sem, List.getElem?_toArray, str_beq, reduceCtorEq, Nat.reduceEqDiff, Nat.reduceLT, Nat.reduceLeDiff, Nat.reduceAdd, Nat.reduceMul, Nat.reduceSub, Nat.reduceBEq, ↓reduceIte, bne_self_eq_false, Bool.and_false, Bool.false_and, Bool.true_or, Bool.false_or, z0, z1])
        | (refine call_givesW (c4) ?_; (try dsimp only); (try simp only [go_sem, List.getElem?_toArray, str_beq, reduceCtorEq, Nat.reduceEqDiff, Nat.reduceLT, Nat.reduceLeDiff, Nat.reduceAdd, Nat.reduceMul, Nat.reduceSub, Nat.reduceBEq, ↓reduceIte, bne_self_eq_false, Bool.and_false, Bool.false_and, Bool.true_or, Bool.false_or, z0, z1]))
        | (refine call_givesW (c5) ?_; (try dsimp only); (try simp only [go_sem, List.getElem?_toArray, str_beq, reduceCtorEq, Nat.reduceEqDiff, Nat.reduceLT, Nat.reduceLeDiff, Nat.reduceAdd, Nat.reduceMul, Nat.reduceSub, Nat.reduceBEq, ↓reduceIte, bne_self_eq_false, Bool.and_false, Bool.false_and, Bool.true_or, Bool.false_or, z0, z1]))
        | (refine call_givesW (c6) ?_; (try dsimp only); (try simp only [go_sem, List.getElem?_toArray, str_beq, reduceCtorEq, Nat.reduceEqDiff, Nat.reduceLT, Nat.reduceLeDiff, Nat.reduceAdd, Nat.reduceMul, Nat.reduceSub, Nat.reduceBEq, ↓reduceIte, bne_self_eq_false, Bool.and_false, Bool.false_and, Bool.true_or, Bool.false_or, z0, z1]))
        | refine k_of (by assumption) ?_
        | refine tr_block ?_
        | refine tr_scope ?_
        | (refine tr_skip ?_; try simp only [ex_seq, ex_block])
        | (refine tr_label ?_; try simp only [ex_seq, ex_block])
        | (refine tr_exit ?_; try simp only [ex_seq_exit, ex_block_exit, Nat.reduceEqDiff, if_true, if_false, ex_seq, ex_block, reduceCtorEq, ↓reduceIte])
        | (refine tr_ret ?_; try simp only [ex_seq_ret, ex_block_ret]))
    refine (hQ _ _ [bA true] ?_ (fun m => ?_)).2 <;> simp only [go_sem, List.getElem?_toArray, str_beq, reduceCtorEq, Nat.reduceEqDiff, Nat.reduceLT, Nat.reduceLeDiff, Nat.reduceAdd, Nat.reduceMul, Nat.reduceSub, Nat.reduceBEq, ↓reduceIte, bne_self_eq_false, Bool.and_false, Bool.false_and, Bool.true_or, Bool.false_or, Try.f7, z0]
end Go.Proofs.Ytlhlcfijpdknfaa
