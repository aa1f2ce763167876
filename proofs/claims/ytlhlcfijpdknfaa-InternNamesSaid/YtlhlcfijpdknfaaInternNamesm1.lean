/-
  For every input the statement InternNames returns true, and leaves its arguments as they were.
-/
import Derived.Test.YtlhlcfijpdknfaaInternNamesm0
import Derived.Lib.Hide
import Derived.Test.YtlhlcfijpdknfaaAq
import Derived.Test.YtlhlcfijpdknfaaLaw
import Derived.Test.YtlhlcfijpdknfaaRows
/-
  Chapter 2: Drop.
-/
set_option linter.unusedSimpArgs false
set_option linter.unusedVariables false
namespace Go.Proofs.Ytlhlcfijpdknfaa
open Go.Vs Go.Vs.Ab Go.Vs.Hp Go.Vs.Tb
set_option maxRecDepth 100000
set_option maxHeartbeats 4000000

theorem nmI_erase (N : List (ByteArray × Nat)) (j : Nat) : (nmI N).eraseIdx j = nmI (N.eraseIdx j) := by
  unfold nmI encE
  rw [map_erase, map_erase]

theorem drop_tab {m : Mm} {b : Nat} {E : List Ent} {S : List Nat} (h : TabM m b E S) (hW : Wf m) (n : Int) (hM : E.length ≤ 1000) (hU : ∀ e ∈ E, e.2 ≤ 100000) :
    ∃ m' S', GivesW Try.prog 12 [.ptr b 0, iA n] m (iA (dropS E n).1) m' ∧ TabM m' b (dropS E n).2 S' ∧ Kp m m' S S' := by
  have hh := has_gives h n
  have htab := h
  obtain ⟨c1, c2, mb, F, N, s1, s2, hb, hF, hE, hN, hI, hS, hnd⟩ := h
  have p1 := hF.plain1
  unfold dropS
  cases h0 : hasS E n with
  | false =>
    rw [h0] at hh
    refine ⟨m, S, ?_, htab, Kp.refl hW S⟩
    refine givesW_of' Try.func12 rfl (by kernel_rfl) Try.ntmps12 rfl rfl fun Q hQ => ?_
    repeat (first
        | refine tr_seq_k fun _ _ => ?_
        | (refine tr_region ?_; simp only [go_sem, List.getElem?_toArray, str_beq, reduceCtorEq, Nat.reduceEqDiff, Nat.reduceLT, Nat.reduceLeDiff, Nat.reduceAdd, Nat.reduceMul, Nat.reduceSub, Nat.reduceBEq, ↓reduceIte, bne_self_eq_false, Bool.and_false, Bool.false_and, Bool.true_or, Bool.false_or])
        | (refine tr_draw (id := 7) follows 12 [12] [0, 1, 2, 3, 4, 5, 6, 7, 8, 9, 10, 11, 12] (by kernel_rfl) ?_; simp only [go_sem, List.getElem?_toArray, str_beq, reduceCtorEq, Nat.reduceEqDiff, Nat.reduceLT, Nat.reduceLeDiff, Nat.reduceAdd, Nat.reduceMul, Nat.reduceSub, Nat.reduceBEq, ↓reduceIte, bne_self_eq_false, Bool.and_false, Bool.false_and, Bool.true_or, Bool.false_or])
        | (refine call_givesW (hh) ?_; (try dsimp only); (try simp only [go_sem, List.getElem?_toArray, str_beq, reduceCtorEq, Nat.reduceEqDiff, Nat.reduceLT, Nat.reduceLeDiff, Nat.reduceAdd, Nat.reduceMul, Nat.reduceSub, Nat.reduceBEq, ↓reduceIte, bne_self_eq_false, Bool.and_false, Bool.false_and, Bool.true_or, Bool.false_or]))
        | refine k_of (by assumption) ?_
        | refine tr_block ?_
        | refine tr_scope ?_
        | (refine tr_skip ?_; try simp only [ex_seq, ex_block])
        | (refine tr_label ?_; try simp only [ex_seq, ex_block])
        | (refine tr_exit ?_; try simp only [ex_seq_exit, ex_block_exit, Nat.reduceEqDiff, if_true, if_false, ex_seq, ex_block, reduceCtorEq, ↓reduceIte])
        | (refine tr_ret ?_; try simp only [ex_seq_ret, ex_block_ret]))
    refine tr_cond rfl (fun ht => ?_) (fun hf => ?_)
    · cases ht
    · repeat (first
          | refine tr_seq_k fun _ _ => ?_
          | (refine tr_region ?_; simp only [go_sem, List.getElem?_toArray, str_beq, reduceCtorEq, Nat.reduceEqDiff, Nat.reduceLT, Nat.reduceLeDiff, Nat.reduceAdd, Nat.reduceMul, Nat.reduceSub, Nat.reduceBEq, ↓reduceIte, bne_self_eq_false, Bool.and_false, Bool.false_and, Bool.true_or, Bool.false_or])
          | (refine tr_draw (id := 7) follows 12 [12] [0, 1, 2, 3, 4, 5, 6, 7, 8, 9, 10, 11, 12] (by kernel_rfl) ?_; simp only [go_sem, List.getElem?_toArray, str_beq, reduceCtorEq, Nat.reduceEqDiff, Nat.reduceLT, Nat.reduceLeDiff, Nat.reduceAdd, Nat.reduceMul, Nat.reduceSub, Nat.reduceBEq, ↓reduceIte, bne_self_eq_false, Bool.and_false, Bool.false_and, Bool.true_or, Bool.false_or])
          | (refine call_givesW (hh) ?_; (try dsimp only); (try simp only [go_sem, List.getElem?_toArray, str_beq, reduceCtorEq, Nat.reduceEqDiff, Nat.reduceLT, Nat.reduceLeDiff, Nat.reduceAdd, Nat.reduceMul, Nat.reduceSub, Nat.reduceBEq, ↓reduceIte, bne_self_eq_false, Bool.and_false, Bool.false_and, Bool.true_or, Bool.false_or]))
          | refine k_of (by assumption) ?_
          | refine tr_block ?_
          | refine tr_scope ?_
          | (refine tr_skip ?_; try simp only [ex_seq, ex_block])
          | (refine tr_label ?_; try simp only [ex_seq, ex_block])
          | (refine tr_exit ?_; try simp only [ex_seq_exit, ex_block_exit, Nat.reduceEqDiff, if_true, if_false, ex_seq, ex_block, reduceCtorEq, ↓reduceIte])
          | (refine tr_ret ?_; try simp only [ex_seq_ret, ex_block_ret]))
      refine tr_cond rfl (fun ht => ?_) (fun hf => ?_)
      · repeat (first
            | refine tr_seq_k fun _ _ => ?_
            | (refine tr_region ?_; simp only [go_sem, List.getElem?_toArray, str_beq, reduceCtorEq, Nat.reduceEqDiff, Nat.reduceLT, Nat.reduceLeDiff, Nat.reduceAdd, Nat.reduceMul, Nat.reduceSub, Nat.reduceBEq, ↓reduceIte, bne_self_eq_false, Bool.and_false, Bool.false_and, Bool.true_or, Bool.false_or])
            | (refine tr_draw (id := 7) follows 12 [12] [0, 1, 2, 3, 4, 5, 6, 7, 8, 9, 10, 11, 12] (by kernel_rfl) ?_; simp only [go_sem, List.getElem?_toArray, str_beq, reduceCtorEq, Nat.reduceEqDiff, Nat.reduceLT, Nat.reduceLeDiff, Nat.reduceAdd, Nat.reduceMul, Nat.reduceSub, Nat.reduceBEq, ↓reduceIte, bne_self_eq_false, Bool.and_false, Bool.false_and, Bool.true_or, Bool.false_or])
            | refine k_of (by assumption) ?_
            | refine tr_block ?_
            | refine tr_scope ?_
            | (refine tr_skip ?_; try simp only [ex_seq, ex_block])
            | (refine tr_label ?_; try simp only [ex_seq, ex_block])
            | (refine tr_exit ?_; try simp only [ex_seq_exit, ex_block_exit, Nat.reduceEqDiff, if_true, if_false, ex_seq, ex_block, reduceCtorEq, ↓reduceIte])
            | (refine tr_ret ?_; try simp only [ex_seq_ret, ex_block_ret]))
        refine (hQ _ _ [iA 13] ?_ rfl rfl).2 <;> simp only [go_sem, List.getElem?_toArray, str_beq, reduceCtorEq, Nat.reduceEqDiff, Nat.reduceLT, Nat.reduceLeDiff, Nat.reduceAdd, Nat.reduceMul, Nat.reduceSub, Nat.reduceBEq, ↓reduceIte, bne_self_eq_false, Bool.and_false, Bool.false_and, Bool.true_or, Bool.false_or, Try.f12]
      · cases hf
  | true =>
    rw [h0] at hh
    obtain ⟨k, rfl, hk, hne⟩ := hasS_spec h0
    obtain ⟨hE', L, rfl, rfl, hL, hEL, hkL, hg⟩ := row_get hE hk
    have hEk : E[k]? = some (E[k].1, E[k].2) := List.getElem?_eq_getElem hk
    have hu0 : 0 < (L[k]).2 := by
      rw [hg]
      exact Nat.pos_of_ne_zero fun e => hne ((hI.zero k _ hEk).1 e)
    have hub : (L[k]).2 ≤ 100000 := by rw [hg]; exact hU _ (List.getElem_mem hk)
    have i1 := en_idx (b := hE') (n := E.length) hk
    have g1 := en_get1 hkL
    have w1 : IntKind.i64.wrap (((L[k]).2 : Nat) - 1) = (((L[k]).2 - 1 : Nat) : Int) := wrap_pred hu0 (by omega)
    have f1 := en_fit1 hkL
    have e1 := en_set1 hkL ((L[k]).2 - 1)
    subst hS
    have hnn : hE' ≠ b ∧ hE' ≠ mb ∧ hE' ∉ s1 := nd_last hnd
    have hbm : b ≠ mb ∧ b ∉ s1 ∧ mb ∉ s1 := by
      simp only [List.nodup_cons, List.mem_cons, List.mem_append, not_or, List.nodup_append] at hnd
      exact ⟨hnd.1.1, hnd.1.2.1, hnd.2.1.1⟩
    have hl2 := (List.getElem?_eq_some_iff.1 hL).1
    have hml := (List.getElem?_eq_some_iff.1 hN).1
    have hlen : ∀ x, (L.set k x).length = L.length := fun x => List.length_set
    have gb1 : ∀ x, (setB m hE' x).hp[b]? = some ⟨false, [c1, .lsl hE' 0 E.length 2, .mapp mb]⟩ := fun x => by rw [setB_ne hnn.1]; exact hb
    have gE1 : ∀ x, (setB m hE' x).hp[hE']? = some x := fun x => setB_self hl2 x
    have gN1 : ∀ x, (setB m hE' x).hp[mb]? = some ⟨false, [.ent (nmI N)]⟩ := fun x => by rw [setB_ne hnn.2.1]; exact hN
    have hg2 : (blC enC (L.set k ((L[k]).1, (L[k]).2 - 1)))[k * 2 + 1]? = some (iA ((L[k]).2 - 1 : Nat)) := by
      have := en_get1 (L := L.set k ((L[k]).1, (L[k]).2 - 1)) (k := k) (by rw [hlen]; exact hkL)
      rw [List.getElem_set_self] at this
      exact this
    rw [if_pos rfl, Int.toNat_natCast, getD_at hk, ← hg]
    cases h5 : ((((L[k]).2 - 1 : Nat) : Int) == 0) with
    | false =>
      have h5' : (L[k]).2 ≠ 1 := fun e => by
        rw [e] at h5
        cases h5
      rw [if_neg h5']
      refine ⟨setB m hE' ⟨false, blC enC (L.set k ((L[k]).1, (L[k]).2 - 1))⟩, b :: mb :: (s1 ++ [hE']), ?_, ?_, Kp.stB (i := hE') hW (by simp) lows_blC⟩
      · refine givesW_of' Try.func12 rfl (by kernel_rfl) Try.ntmps12 rfl rfl fun Q hQ => ?_
        repeat (first
            | refine tr_seq_k fun _ _ => ?_
            | (refine tr_region ?_; simp only [go_sem, List.getElem?_toArray, str_beq, reduceCtorEq, Nat.reduceEqDiff, Nat.reduceLT, Nat.reduceLeDiff, Nat.reduceAdd, Nat.reduceMul, Nat.reduceSub, Nat.reduceBEq, ↓reduceIte, bne_self_eq_false, Bool.and_false, Bool.false_and, Bool.true_or, Bool.false_or])
            | (refine tr_draw (id := 7) follows 12 [12] [0, 1, 2, 3, 4, 5, 6, 7, 8, 9, 10, 11, 12] (by kernel_rfl) ?_; simp only [go_sem, List.getElem?_toArray, str_beq, reduceCtorEq, Nat.reduceEqDiff, Nat.reduceLT, Nat.reduceLeDiff, Nat.reduceAdd, Nat.reduceMul, Nat.reduceSub, Nat.reduceBEq, ↓reduceIte, bne_self_eq_false, Bool.and_false, Bool.false_and, Bool.true_or, Bool.false_or])
            | (refine call_givesW (hh) ?_; (try dsimp only); (try simp only [go_sem, List.getElem?_toArray, str_beq, reduceCtorEq, Nat.reduceEqDiff, Nat.reduceLT, Nat.reduceLeDiff, Nat.reduceAdd, Nat.reduceMul, Nat.reduceSub, Nat.reduceBEq, ↓reduceIte, bne_self_eq_false, Bool.and_false, Bool.false_and, Bool.true_or, Bool.false_or]))
            | refine k_of (by assumption) ?_
            | refine tr_block ?_
            | refine tr_scope ?_
            | (refine tr_skip ?_; try simp only [ex_seq, ex_block])
            | (refine tr_label ?_; try simp only [ex_seq, ex_block])
            | (refine tr_exit ?_; try simp only [ex_seq_exit, ex_block_exit, Nat.reduceEqDiff, if_true, if_false, ex_seq, ex_block, reduceCtorEq, ↓reduceIte])
            | (refine tr_ret ?_; try simp only [ex_seq_ret, ex_block_ret]))
        refine tr_cond rfl (fun ht => ?_) (fun hf => ?_)
        · cases ht
        · repeat (first
              | refine tr_seq_k fun _ _ => ?_
              | (refine tr_region ?_; simp only [go_sem, List.getElem?_toArray, str_beq, reduceCtorEq, Nat.reduceEqDiff, Nat.reduceLT, Nat.reduceLeDiff, Nat.reduceAdd, Nat.reduceMul, Nat.reduceSub, Nat.reduceBEq, ↓reduceIte, bne_self_eq_false, Bool.and_false, Bool.false_and, Bool.true_or, Bool.false_or])
              | (refine tr_draw (id := 7) follows 12 [12] [0, 1, 2, 3, 4, 5, 6, 7, 8, 9, 10, 11, 12] (by kernel_rfl) ?_; simp only [go_sem, List.getElem?_toArray, str_beq, reduceCtorEq, Nat.reduceEqDiff, Nat.reduceLT, Nat.reduceLeDiff, Nat.reduceAdd, Nat.reduceMul, Nat.reduceSub, Nat.reduceBEq, ↓reduceIte, bne_self_eq_false, Bool.and_false, Bool.false_and, Bool.true_or, Bool.false_or])
              | (refine call_givesW (hh) ?_; (try dsimp only); (try simp only [go_sem, List.getElem?_toArray, str_beq, reduceCtorEq, Nat.reduceEqDiff, Nat.reduceLT, Nat.reduceLeDiff, Nat.reduceAdd, Nat.reduceMul, Nat.reduceSub, Nat.reduceBEq, ↓reduceIte, bne_self_eq_false, Bool.and_false, Bool.false_and, Bool.true_or, Bool.false_or]))
              | refine k_of (by assumption) ?_
              | refine tr_block ?_
              | refine tr_scope ?_
              | (refine tr_skip ?_; try simp only [ex_seq, ex_block])
              | (refine tr_label ?_; try simp only [ex_seq, ex_block])
              | (refine tr_exit ?_; try simp only [ex_seq_exit, ex_block_exit, Nat.reduceEqDiff, if_true, if_false, ex_seq, ex_block, reduceCtorEq, ↓reduceIte])
              | (refine tr_ret ?_; try simp only [ex_seq_ret, ex_block_ret]))
          refine tr_cond rfl (fun ht => ?_) (fun hf => ?_)
          · cases ht
          · repeat (first
                | refine tr_seq_k fun _ _ => ?_
                | (refine tr_region ?_; simp only [go_sem, List.getElem?_toArray, str_beq, reduceCtorEq, Nat.reduceEqDiff, Nat.reduceLT, Nat.reduceLeDiff, Nat.reduceAdd, Nat.reduceMul, Nat.reduceSub, Nat.reduceBEq, ↓reduceIte, bne_self_eq_false, Bool.and_false, Bool.false_and, Bool.true_or, Bool.false_or, hb, p1, hL, i1, g1, w1, f1, e1, setB_eq, gb1, gE1, hg2, h5])
                | (refine tr_draw (id := 7) follows 12 [12] [0, 1, 2, 3, 4, 5, 6, 7, 8, 9, 10, 11, 12] (by kernel_rfl) ?_; simp only [go_sem, List.getElem?_toArray, str_beq, reduceCtorEq, Nat.reduceEqDiff, Nat.reduceLT, Nat.reduceLeDiff, Nat.reduceAdd, Nat.reduceMul, Nat.reduceSub, Nat.reduceBEq, ↓reduceIte, bne_self_eq_false, Bool.and_false, Bool.false_and, Bool.true_or, Bool.false_or, hb, p1, hL, i1, g1, w1, f1, e1, setB_eq, gb1, gE1, hg2, h5])
                | refine k_of (by assumption) ?_
                | refine tr_block ?_
                | refine tr_scope ?_
                | (refine tr_skip ?_; try simp only [ex_seq, ex_block])
                | (refine tr_label ?_; try simp only [ex_seq, ex_block])
                | (refine tr_exit ?_; try simp only [ex_seq_exit, ex_block_exit, Nat.reduceEqDiff, if_true, if_false, ex_seq, ex_block, reduceCtorEq, ↓reduceIte])
                | (refine tr_ret ?_; try simp only [ex_seq_ret, ex_block_ret]))
            refine tr_cond rfl (fun ht => ?_) (fun hf => ?_)
            · cases ht
            · repeat (first
                  | refine tr_seq_k fun _ _ => ?_
                  | (refine tr_region ?_; simp only [go_sem, List.getElem?_toArray, str_beq, reduceCtorEq, Nat.reduceEqDiff, Nat.reduceLT, Nat.reduceLeDiff, Nat.reduceAdd, Nat.reduceMul, Nat.reduceSub, Nat.reduceBEq, ↓reduceIte, bne_self_eq_false, Bool.and_false, Bool.false_and, Bool.true_or, Bool.false_or])
                  | (refine tr_draw (id := 7) follows 12 [12] [0, 1, 2, 3, 4, 5, 6, 7, 8, 9, 10, 11, 12] (by kernel_rfl) ?_; simp only [go_sem, List.getElem?_toArray, str_beq, reduceCtorEq, Nat.reduceEqDiff, Nat.reduceLT, Nat.reduceLeDiff, Nat.reduceAdd, Nat.reduceMul, Nat.reduceSub, Nat.reduceBEq, ↓reduceIte, bne_self_eq_false, Bool.and_false, Bool.false_and, Bool.true_or, Bool.false_or])
                  | refine k_of (by assumption) ?_
                  | refine tr_block ?_
                  | refine tr_scope ?_
                  | (refine tr_skip ?_; try simp only [ex_seq, ex_block])
                  | (refine tr_label ?_; try simp only [ex_seq, ex_block])
                  | (refine tr_exit ?_; try simp only [ex_seq_exit, ex_block_exit, Nat.reduceEqDiff, if_true, if_false, ex_seq, ex_block, reduceCtorEq, ↓reduceIte])
                  | (refine tr_ret ?_; try simp only [ex_seq_ret, ex_block_ret]))
              refine (hQ _ _ [iA 0] ?_ rfl rfl).2 <;> simp only [go_sem, List.getElem?_toArray, str_beq, reduceCtorEq, Nat.reduceEqDiff, Nat.reduceLT, Nat.reduceLeDiff, Nat.reduceAdd, Nat.reduceMul, Nat.reduceSub, Nat.reduceBEq, ↓reduceIte, bne_self_eq_false, Bool.and_false, Bool.false_and, Bool.true_or, Bool.false_or, Try.f12]
      · refine ⟨c1, .lsl hE' 0 E.length 2, mb, F, N, s1, [hE'], gb1 _, ?_, ?_, gN1 _, ?_, rfl, hnd⟩
        · exact hF.keep (Kp.stB (i := hE') (S := [hE']) hW (by simp) lows_blC) (fun i hi h2 => hnn.2.2 (by simp at h2; rw [← h2]; exact hi))
        · exact Or.inr ⟨hE', _, by rw [List.length_set], rfl, gE1 _, take_set hEL hk _⟩
        · rw [hg]
          exact hI.again hEk hne (by rw [← hg]; omega)
    | true =>
      have h5' : (L[k]).2 = 1 := by
        have := eq_of_beq h5
        omega
      rw [if_pos h5']
      have g0 := en_get0 (L := L.set k ((L[k]).1, (L[k]).2 - 1)) (k := k) (by rw [hlen]; exact hkL)
      rw [List.getElem_set_self] at g0
      have g0' : (blC enC (L.set k ((L[k]).1, (L[k]).2 - 1)))[k * 2]? = some (sA (L[k]).1) := g0
      have hin : ((L[k]).1, k) ∈ N := (hI.nmem _ _).2 ⟨_, by rw [hg]; exact hEk, by rw [← hg]; exact hu0⟩
      obtain ⟨j, hlk, hj⟩ := nmI_some und_str hI.nnd hin (nmI N).isEmpty
      have f0 : (k * 2 + 2 ≤ (blC enC (L.set k ((L[k]).1, (L[k]).2 - 1))).length) = True := en_fit0 (by rw [hlen]; exact hkL)
      have e2 := en_set (L := L.set k ((L[k]).1, (L[k]).2 - 1)) (k := k) (by rw [hlen]; exact hkL) (emp, 0)
      rw [List.set_set] at e2
      have e2' : List.take (k * 2) (blC enC (L.set k ((L[k]).1, (L[k]).2 - 1))) ++ [sA ⟨#[]⟩, iA 0] ++ List.drop (k * 2 + 2) (blC enC (L.set k ((L[k]).1, (L[k]).2 - 1))) = blC enC (L.set k (emp, 0)) := e2
      have k1 : Kp m (setB m hE' ⟨false, blC enC (L.set k ((L[k]).1, (L[k]).2 - 1))⟩) (b :: mb :: (s1 ++ [hE'])) (b :: mb :: (s1 ++ [hE'])) := Kp.stB (i := hE') hW (by simp) lows_blC
      have gE1 := gE1 ⟨false, blC enC (L.set k ((L[k]).1, (L[k]).2 - 1))⟩
      have gN1 := gN1 ⟨false, blC enC (L.set k ((L[k]).1, (L[k]).2 - 1))⟩
      have gb1 := gb1 ⟨false, blC enC (L.set k ((L[k]).1, (L[k]).2 - 1))⟩
      generalize hm1 : setB m hE' ⟨false, blC enC (L.set k ((L[k]).1, (L[k]).2 - 1))⟩ = m1 at *
      have hl21 := (List.getElem?_eq_some_iff.1 gE1).1
      have hml1 := (List.getElem?_eq_some_iff.1 gN1).1
      have k2 := k1.put (i := mb) (nb := ⟨false, [.ent (nmI (N.eraseIdx j))]⟩) (by simp) rfl
      have gE2 : (setB m1 mb ⟨false, [.ent (nmI (N.eraseIdx j))]⟩).hp[hE']? = some ⟨false, blC enC (L.set k ((L[k]).1, (L[k]).2 - 1))⟩ := by rw [setB_ne (Ne.symm hnn.2.1)]; exact gE1
      have gN2 := setB_self hml1 (⟨false, [.ent (nmI (N.eraseIdx j))]⟩ : Blk)
      have gb2 : (setB m1 mb ⟨false, [.ent (nmI (N.eraseIdx j))]⟩).hp[b]? = some ⟨false, [c1, .lsl hE' 0 E.length 2, .mapp mb]⟩ := by rw [setB_ne (Ne.symm hbm.1)]; exact gb1
      generalize hm2 : setB m1 mb ⟨false, [.ent (nmI (N.eraseIdx j))]⟩ = m2 at *
      have hl22 := (List.getElem?_eq_some_iff.1 gE2).1
      have k3 := k2.put (i := hE') (nb := ⟨false, blC enC (L.set k (emp, 0))⟩) (by simp) lows_blC
      have gE3 := setB_self hl22 (⟨false, blC enC (L.set k (emp, 0))⟩ : Blk)
      have gN3 : (setB m2 hE' ⟨false, blC enC (L.set k (emp, 0))⟩).hp[mb]? = some ⟨false, [.ent (nmI (N.eraseIdx j))]⟩ := by rw [setB_ne hnn.2.1]; exact gN2
      have gb3 : (setB m2 hE' ⟨false, blC enC (L.set k (emp, 0))⟩).hp[b]? = some ⟨false, [c1, .lsl hE' 0 E.length 2, .mapp mb]⟩ := by rw [setB_ne hnn.1]; exact gb2
      generalize hm3 : setB m2 hE' ⟨false, blC enC (L.set k (emp, 0))⟩ = m3 at *
      have hF3 : RowAt m3 inC 1 c1 F s1 := by
        rcases hF with hF | ⟨h', L', q1, q2, q3, q4⟩
        · exact Or.inl hF
        · refine Or.inr ⟨h', L', q1, q2, ?_, q4⟩
          subst q2
          have t1 : hE' ≠ h' := fun e => hnn.2.2 (by simp [e])
          have t2 : mb ≠ h' := fun e => hbm.2.2 (by simp [e])
          rw [← hm3, setB_ne t1, ← hm2, setB_ne t2, ← hm1, setB_ne t1]
          exact q3
      have hFl : F.length ≤ 1000 := Nat.le_trans hI.free_le hM
      obtain ⟨m4, h4, c6, gb4, gF4, hb4, k4⟩ := hpush gb3 hF3 hbm.2.1 k3.wf (k : Int) (by omega)
      have k5 : Kp m m4 (b :: mb :: (s1 ++ [hE'])) (b :: mb :: ([h4] ++ [hE'])) := k3.trans (k4.mono (fun i hi => by
        simp only [List.mem_cons, List.mem_append] at hi ⊢
        rcases hi with hi | hi
        · exact Or.inl hi
        · exact Or.inr (Or.inr (Or.inl hi))) (fun i hi => by
        simp only [List.mem_cons, List.mem_append, List.not_mem_nil, or_false] at hi ⊢
        rcases hi with hi | hi | hi | hi
        · exact Or.inl (Or.inl hi)
        · exact Or.inr (Or.inr (Or.inl hi))
        · exact Or.inl (Or.inr hi)
        · exact Or.inr (Or.inr (Or.inr (Or.inr hi)))))
      have hnew : h4 ≠ mb ∧ h4 ≠ hE' := by
        rcases k4.new h4 (by simp) with hq | hq
        · simp only [List.mem_cons] at hq
          rcases hq with hq | hq
          · exact absurd hq hb4
          · exact ⟨fun e => hbm.2.2 (by rw [← e]; exact hq), fun e => hnn.2.2 (by rw [← e]; exact hq)⟩
        · have q1 := (List.getElem?_eq_some_iff.1 gN3).1
          have q2 := (List.getElem?_eq_some_iff.1 gE3).1
          exact ⟨by omega, by omega⟩
      refine ⟨m4, b :: mb :: ([h4] ++ [hE']), ?_, ?_, k5⟩
      · refine givesW_of' Try.func12 rfl (by kernel_rfl) Try.ntmps12 rfl rfl fun Q hQ => ?_
        repeat (first
            | refine tr_seq_k fun _ _ => ?_
            | (refine tr_region ?_; simp only [go_sem, List.getElem?_toArray, str_beq, reduceCtorEq, Nat.reduceEqDiff, Nat.reduceLT, Nat.reduceLeDiff, Nat.reduceAdd, Nat.reduceMul, Nat.reduceSub, Nat.reduceBEq, ↓reduceIte, bne_self_eq_false, Bool.and_false, Bool.false_and, Bool.true_or, Bool.false_or])
            | (refine tr_draw (id := 7) follows 12 [12] [0, 1, 2, 3, 4, 5, 6, 7, 8, 9, 10, 11, 12] (by kernel_rfl) ?_; simp only [go_sem, List.getElem?_toArray, str_beq, reduceCtorEq, Nat.reduceEqDiff, Nat.reduceLT, Nat.reduceLeDiff, Nat.reduceAdd, Nat.reduceMul, Nat.reduceSub, Nat.reduceBEq, ↓reduceIte, bne_self_eq_false, Bool.and_false, Bool.false_and, Bool.true_or, Bool.false_or])
            | (refine call_givesW (hh) ?_; (try dsimp only); (try simp only [go_sem, List.getElem?_toArray, str_beq, reduceCtorEq, Nat.reduceEqDiff, Nat.reduceLT, Nat.reduceLeDiff, Nat.reduceAdd, Nat.reduceMul, Nat.reduceSub, Nat.reduceBEq, ↓reduceIte, bne_self_eq_false, Bool.and_false, Bool.false_and, Bool.true_or, Bool.false_or]))
            | refine k_of (by assumption) ?_
            | refine tr_block ?_
            | refine tr_scope ?_
            | (refine tr_skip ?_; try simp only [ex_seq, ex_block])
            | (refine tr_label ?_; try simp only [ex_seq, ex_block])
            | (refine tr_exit ?_; try simp only [ex_seq_exit, ex_block_exit, Nat.reduceEqDiff, if_true, if_false, ex_seq, ex_block, reduceCtorEq, ↓reduceIte])
            | (refine tr_ret ?_; try simp only [ex_seq_ret, ex_block_ret]))
        refine tr_cond rfl (fun ht => ?_) (fun hf => ?_)
        · cases ht
        · repeat (first
              | refine tr_seq_k fun _ _ => ?_
              | (refine tr_region ?_; simp only [go_sem, List.getElem?_toArray, str_beq, reduceCtorEq, Nat.reduceEqDiff, Nat.reduceLT, Nat.reduceLeDiff, Nat.reduceAdd, Nat.reduceMul, Nat.reduceSub, Nat.reduceBEq, ↓reduceIte, bne_self_eq_false, Bool.and_false, Bool.false_and, Bool.true_or, Bool.false_or])
              | (refine tr_draw (id := 7) follows 12 [12] [0, 1, 2, 3, 4, 5, 6, 7, 8, 9, 10, 11, 12] (by kernel_rfl) ?_; simp only [go_sem, List.getElem?_toArray, str_beq, reduceCtorEq, Nat.reduceEqDiff, Nat.reduceLT, Nat.reduceLeDiff, Nat.reduceAdd, Nat.reduceMul, Nat.reduceSub, Nat.reduceBEq, ↓reduceIte, bne_self_eq_false, Bool.and_false, Bool.false_and, Bool.true_or, Bool.false_or])
              | (refine call_givesW (hh) ?_; (try dsimp only); (try simp only [go_sem, List.getElem?_toArray, str_beq, reduceCtorEq, Nat.reduceEqDiff, Nat.reduceLT, Nat.reduceLeDiff, Nat.reduceAdd, Nat.reduceMul, Nat.reduceSub, Nat.reduceBEq, ↓reduceIte, bne_self_eq_false, Bool.and_false, Bool.false_and, Bool.true_or, Bool.false_or]))
              | refine k_of (by assumption) ?_
              | refine tr_block ?_
              | refine tr_scope ?_
              | (refine tr_skip ?_; try simp only [ex_seq, ex_block])
              | (refine tr_label ?_; try simp only [ex_seq, ex_block])
              | (refine tr_exit ?_; try simp only [ex_seq_exit, ex_block_exit, Nat.reduceEqDiff, if_true, if_false, ex_seq, ex_block, reduceCtorEq, ↓reduceIte])
              | (refine tr_ret ?_; try simp only [ex_seq_ret, ex_block_ret]))
          refine tr_cond rfl (fun ht => ?_) (fun hf => ?_)
          · cases ht
          · repeat (first
                | refine tr_seq_k fun _ _ => ?_
                | (refine tr_region ?_; simp only [go_sem, List.getElem?_toArray, str_beq, reduceCtorEq, Nat.reduceEqDiff, Nat.reduceLT, Nat.reduceLeDiff, Nat.reduceAdd, Nat.reduceMul, Nat.reduceSub, Nat.reduceBEq, ↓reduceIte, bne_self_eq_false, Bool.and_false, Bool.false_and, Bool.true_or, Bool.false_or, hb, p1, hL, i1, g1, w1, f1, e1, setB_eq, hm1, gb1, gE1, hg2, h5])
                | (refine tr_draw (id := 7) follows 12 [12] [0, 1, 2, 3, 4, 5, 6, 7, 8, 9, 10, 11, 12] (by kernel_rfl) ?_; simp only [go_sem, List.getElem?_toArray, str_beq, reduceCtorEq, Nat.reduceEqDiff, Nat.reduceLT, Nat.reduceLeDiff, Nat.reduceAdd, Nat.reduceMul, Nat.reduceSub, Nat.reduceBEq, ↓reduceIte, bne_self_eq_false, Bool.and_false, Bool.false_and, Bool.true_or, Bool.false_or, hb, p1, hL, i1, g1, w1, f1, e1, setB_eq, hm1, gb1, gE1, hg2, h5])
                | refine k_of (by assumption) ?_
                | refine tr_block ?_
                | refine tr_scope ?_
                | (refine tr_skip ?_; try simp only [ex_seq, ex_block])
                | (refine tr_label ?_; try simp only [ex_seq, ex_block])
                | (refine tr_exit ?_; try simp only [ex_seq_exit, ex_block_exit, Nat.reduceEqDiff, if_true, if_false, ex_seq, ex_block, reduceCtorEq, ↓reduceIte])
                | (refine tr_ret ?_; try simp only [ex_seq_ret, ex_block_ret]))
            refine tr_cond rfl (fun ht => ?_) (fun hf => ?_)
            · repeat (first
                  | refine tr_seq_k fun _ _ => ?_
                  | (refine tr_region ?_; simp only [go_sem, List.getElem?_toArray, str_beq, reduceCtorEq, Nat.reduceEqDiff, Nat.reduceLT, Nat.reduceLeDiff, Nat.reduceAdd, Nat.reduceMul, Nat.reduceSub, Nat.reduceBEq, ↓reduceIte, bne_self_eq_false, Bool.and_false, Bool.false_and, Bool.true_or, Bool.false_or, gb1, p1, gE1, i1, g0', gN1, setB_eq, aMapDel, mDel, hlk, nmI_erase, hm2, gb2, gE2, f0, e2', hm3, gb3])
                  | (refine tr_draw (id := 7) follows 12 [12] [0, 1, 2, 3, 4, 5, 6, 7, 8, 9, 10, 11, 12] (by kernel_rfl) ?_; simp only [go_sem, List.getElem?_toArray, str_beq, reduceCtorEq, Nat.reduceEqDiff, Nat.reduceLT, Nat.reduceLeDiff, Nat.reduceAdd, Nat.reduceMul, Nat.reduceSub, Nat.reduceBEq, ↓reduceIte, bne_self_eq_false, Bool.and_false, Bool.false_and, Bool.true_or, Bool.false_or, gb1, p1, gE1, i1, g0', gN1, setB_eq, aMapDel, mDel, hlk, nmI_erase, hm2, gb2, gE2, f0, e2', hm3, gb3])
                  | (refine call_givesW (c6) ?_; (try dsimp only); (try simp only [go_sem, List.getElem?_toArray, str_beq, reduceCtorEq, Nat.reduceEqDiff, Nat.reduceLT, Nat.reduceLeDiff, Nat.reduceAdd, Nat.reduceMul, Nat.reduceSub, Nat.reduceBEq, ↓reduceIte, bne_self_eq_false, Bool.and_false, Bool.false_and, Bool.true_or, Bool.false_or, gb1, p1, gE1, i1, g0', gN1, setB_eq, aMapDel, mDel, hlk, nmI_erase, hm2, gb2, gE2, f0, e2', hm3, gb3]))
                  | refine k_of (by assumption) ?_
                  | refine tr_block ?_
                  | refine tr_scope ?_
                  | (refine tr_skip ?_; try simp only [ex_seq, ex_block])
                  | (refine tr_label ?_; try simp only [ex_seq, ex_block])
                  | (refine tr_exit ?_; try simp only [ex_seq_exit, ex_block_exit, Nat.reduceEqDiff, if_true, if_false, ex_seq, ex_block, reduceCtorEq, ↓reduceIte])
                  | (refine tr_ret ?_; try simp only [ex_seq_ret, ex_block_ret]))
              refine (hQ _ _ [iA 0] ?_ rfl rfl).2 <;> simp only [go_sem, List.getElem?_toArray, str_beq, reduceCtorEq, Nat.reduceEqDiff, Nat.reduceLT, Nat.reduceLeDiff, Nat.reduceAdd, Nat.reduceMul, Nat.reduceSub, Nat.reduceBEq, ↓reduceIte, bne_self_eq_false, Bool.and_false, Bool.false_and, Bool.true_or, Bool.false_or, Try.f12]
            · cases hf
      · refine ⟨.lsl h4 0 (F.length + 1) 1, .lsl hE' 0 E.length 2, mb, pushF F k, N.eraseIdx j, [h4], [hE'], gb4, ?_, ?_, ?_, ?_, rfl, ?_⟩
        · have hp := push_ok hI.heap (k : Int)
          have e : (pushF F k).length = F.length + 1 := by rw [hp.2.length_eq]; simp
          exact Or.inr ⟨h4, pushF F k, by rw [e], rfl, gF4, by rw [e, List.take_of_length_le (by omega)]⟩
        · refine Or.inr ⟨hE', L.set k (emp, 0), by rw [List.length_set], rfl, k4.old _ _ ?_ gE3, take_set hEL hk _⟩
          simp only [List.mem_cons, not_or]
          exact ⟨hnn.1, hnn.2.2⟩
        · refine k4.old _ _ ?_ gN3
          simp only [List.mem_cons, not_or]
          exact ⟨Ne.symm hbm.1, hbm.2.2⟩
        · have hp := push_ok hI.heap (k : Int)
          rw [hg] at hj
          exact hI.gone hEk hne hp.2 hp.1 hj
        · simp only [List.cons_append, List.nil_append, List.nodup_cons, List.mem_cons, List.not_mem_nil, or_false, not_or, not_false_eq_true, List.nodup_nil, and_true]
          exact ⟨⟨hbm.1, Ne.symm hb4, Ne.symm hnn.1⟩, ⟨Ne.symm hnew.1, Ne.symm hnn.2.1⟩, hnew.2⟩
end Go.Proofs.Ytlhlcfijpdknfaa

/-
  Chapter 2: a text so many times; the chapter's example.
-/
set_option linter.unusedSimpArgs false
set_option linter.unusedVariables false
namespace Go.Proofs.Ytlhlcfijpdknfaa
open Go.Vs Go.Vs.Ab Go.Vs.Hp Go.Vs.Tb
set_option maxRecDepth 100000
set_option maxHeartbeats 4000000

def repS (s : ByteArray) : Nat → ByteArray
  | 0 => emp
  | n + 1 => s ++ repS s n
theorem emp_append (s : ByteArray) : emp ++ s = s := ByteArray.empty_append
theorem append_emp (s : ByteArray) : s ++ emp = s := ByteArray.append_empty
theorem repS_two (s : ByteArray) : ∀ k, repS (s ++ s) k = repS s (2 * k)
  | 0 => rfl
  | k + 1 => by
    rw [show 2 * (k + 1) = 2 * k + 1 + 1 by omega]
    simp only [repS, repS_two s k, ByteArray.append_assoc]
theorem repS_size (s : ByteArray) : ∀ n, (repS s n).size = n * s.size
  | 0 => by simp [repS, emp]; rfl
  | n + 1 => by simp only [repS, ByteArray.size_append, repS_size s n, Nat.add_mul]; omega

theorem times_does {s : ByteArray} {n : Nat} (hs : s.size * n ≤ 1000000) (hn : n ≤ 1000000) : Does Try.prog 11 [sA s, iA n] (fun m => (sA (repS s n), m)) := by
  refine does_of' Try.func11 rfl (by kernel_rfl) rfl Try.ntmps11 rfl rfl fun Q hQ => ?_
  repeat (first
      | refine tr_seq_k fun _ _ => ?_
      | (refine tr_region ?_; simp only [go_sem, List.getElem?_toArray, str_beq, reduceCtorEq, Nat.reduceEqDiff, Nat.reduceLT, Nat.reduceLeDiff, Nat.reduceAdd, Nat.reduceMul, Nat.reduceSub, Nat.reduceBEq, ↓reduceIte, bne_self_eq_false, Bool.and_false, Bool.false_and, Bool.true_or, Bool.false_or])
      | refine k_of (by assumption) ?_
      | refine tr_block ?_
      | refine tr_scope ?_
      | (refine tr_skip ?_; try simp only [ex_seq, ex_block])
      | (refine tr_label ?_; try simp only [ex_seq, ex_block])
      | (refine tr_exit ?_; try simp only [ex_seq_exit, ex_block_exit, Nat.reduceEqDiff, if_true, if_false, ex_seq, ex_block, reduceCtorEq, ↓reduceIte])
      | (refine tr_ret ?_; try simp only [ex_seq_ret, ex_block_ret]))
  refine tr_loop_k (σ := ByteArray × ByteArray × Nat) (fun q => [(0, sA q.2.1), (1, iA q.2.2), (5, sA q.1)]) (fun _ => ⟨[], []⟩)
    (fun q => q.1 ++ repS q.2.1 q.2.2 = repS s n ∧ q.1.size + q.2.1.size * q.2.2 ≤ 1000000 ∧ q.2.2 ≤ 1000000) (fun q => q.2.2) (emp, s, n) ⟨emp_append _, by show 0 + s.size * n ≤ _; omega, hn⟩ ⟨rfl, rfl, rfl, trivial⟩ rfl ?_
  rintro ⟨o, t, k⟩ ⟨h1, h2, h3⟩ K hK
  dsimp only at h1 h2 h3 hK
  have two : ¬ (2 : Int) = 0 := by decide
  have hgt : ((k : Int) > 0) = ((0 : Int) < (k : Nat)) := rfl
  by_cases hk : k = 0
  · have d1 : decide ((0 : Int) < (k : Nat)) = false := decide_eq_false (by omega)
    have e1 : o = repS s n := by
      rw [← h1, hk]
      exact (append_emp o).symm
    repeat (first
        | refine tr_seq_k fun _ _ => ?_
        | (refine tr_region ?_; simp only [go_sem, List.getElem?_toArray, str_beq, reduceCtorEq, Nat.reduceEqDiff, Nat.reduceLT, Nat.reduceLeDiff, Nat.reduceAdd, Nat.reduceMul, Nat.reduceSub, Nat.reduceBEq, ↓reduceIte, bne_self_eq_false, Bool.and_false, Bool.false_and, Bool.true_or, Bool.false_or, d1])
        | refine k_of (by assumption) ?_
        | refine tr_block ?_
        | refine tr_scope ?_
        | (refine tr_skip ?_; try simp only [ex_seq, ex_block])
        | (refine tr_label ?_; try simp only [ex_seq, ex_block])
        | (refine tr_exit ?_; try simp only [ex_seq_exit, ex_block_exit, Nat.reduceEqDiff, if_true, if_false, ex_seq, ex_block, reduceCtorEq, ↓reduceIte])
        | (refine tr_ret ?_; try simp only [ex_seq_ret, ex_block_ret]))
    refine tr_cond rfl (fun ht => ?_) (fun hf => ?_)
    · cases ht
    · repeat (first
          | refine tr_seq_k fun _ _ => ?_
          | (refine tr_region ?_; simp only [go_sem, List.getElem?_toArray, str_beq, reduceCtorEq, Nat.reduceEqDiff, Nat.reduceLT, Nat.reduceLeDiff, Nat.reduceAdd, Nat.reduceMul, Nat.reduceSub, Nat.reduceBEq, ↓reduceIte, bne_self_eq_false, Bool.and_false, Bool.false_and, Bool.true_or, Bool.false_or])
          | refine k_of (by assumption) ?_
          | refine tr_block ?_
          | refine tr_scope ?_
          | (refine tr_skip ?_; try simp only [ex_seq, ex_block])
          | (refine tr_label ?_; try simp only [ex_seq, ex_block])
          | (refine tr_exit ?_; try simp only [ex_seq_exit, ex_block_exit, Nat.reduceEqDiff, if_true, if_false, ex_seq, ex_block, reduceCtorEq, ↓reduceIte])
          | (refine tr_ret ?_; try simp only [ex_seq_ret, ex_block_ret]))
      refine (hQ _ _ [sA o] ?_ (fun m => ?_)).2 <;> simp only [go_sem, List.getElem?_toArray, str_beq, reduceCtorEq, Nat.reduceEqDiff, Nat.reduceLT, Nat.reduceLeDiff, Nat.reduceAdd, Nat.reduceMul, Nat.reduceSub, Nat.reduceBEq, ↓reduceIte, bne_self_eq_false, Bool.and_false, Bool.false_and, Bool.true_or, Bool.false_or, Try.f11, e1]
  · have d1 : decide ((0 : Int) < (k : Nat)) = true := decide_eq_true (by omega)
    have ht1 : t.size ≤ 1000000 := by
      have : t.size * 1 ≤ t.size * k := Nat.mul_le_mul_left _ (by omega)
      omega
    have w1 : IntKind.i64.wrap ((k : Int).tdiv 2) = ((k / 2 : Nat) : Int) := by
      rw [Int.tdiv_eq_ediv_of_nonneg (by omega), wrap_in (by omega)]
      omega
    have w2 : (k : Int).tmod 2 = ((k % 2 : Nat) : Int) := by
      rw [Int.tmod_eq_emod_of_nonneg (by omega)]
      omega
    have sa : t.size + t.size ≤ 9223372036854775807 := by omega
    have so : o.size + t.size ≤ 9223372036854775807 := by omega
    cases h5 : (((k % 2 : Nat) : Int) == 1) with
    | true =>
      have h5' : k % 2 = 1 := by
        have := eq_of_beq h5
        omega
      repeat (first
          | refine tr_seq_k fun _ _ => ?_
          | (refine tr_region ?_; simp only [go_sem, List.getElem?_toArray, str_beq, reduceCtorEq, Nat.reduceEqDiff, Nat.reduceLT, Nat.reduceLeDiff, Nat.reduceAdd, Nat.reduceMul, Nat.reduceSub, Nat.reduceBEq, ↓reduceIte, bne_self_eq_false, Bool.and_false, Bool.false_and, Bool.true_or, Bool.false_or, d1, two, w2, h5])
          | refine k_of (by assumption) ?_
          | refine tr_block ?_
          | refine tr_scope ?_
          | (refine tr_skip ?_; try simp only [ex_seq, ex_block])
          | (refine tr_label ?_; try simp only [ex_seq, ex_block])
          | (refine tr_exit ?_; try simp only [ex_seq_exit, ex_block_exit, Nat.reduceEqDiff, if_true, if_false, ex_seq, ex_block, reduceCtorEq, ↓reduceIte])
          | (refine tr_ret ?_; try simp only [ex_seq_ret, ex_block_ret]))
      refine tr_cond rfl (fun ht => ?_) (fun hf => ?_)
      · repeat (first
            | refine tr_seq_k fun _ _ => ?_
            | (refine tr_region ?_; simp only [go_sem, List.getElem?_toArray, str_beq, reduceCtorEq, Nat.reduceEqDiff, Nat.reduceLT, Nat.reduceLeDiff, Nat.reduceAdd, Nat.reduceMul, Nat.reduceSub, Nat.reduceBEq, ↓reduceIte, bne_self_eq_false, Bool.and_false, Bool.false_and, Bool.true_or, Bool.false_or, d1, two, w2, h5])
            | refine k_of (by assumption) ?_
            | refine tr_block ?_
            | refine tr_scope ?_
            | (refine tr_skip ?_; try simp only [ex_seq, ex_block])
            | (refine tr_label ?_; try simp only [ex_seq, ex_block])
            | (refine tr_exit ?_; try simp only [ex_seq_exit, ex_block_exit, Nat.reduceEqDiff, if_true, if_false, ex_seq, ex_block, reduceCtorEq, ↓reduceIte])
            | (refine tr_ret ?_; try simp only [ex_seq_ret, ex_block_ret]))
        refine tr_cond rfl (fun ht => ?_) (fun hf => ?_)
        · repeat (first
              | refine tr_seq_k fun _ _ => ?_
              | (refine tr_region ?_; simp only [go_sem, List.getElem?_toArray, str_beq, reduceCtorEq, Nat.reduceEqDiff, Nat.reduceLT, Nat.reduceLeDiff, Nat.reduceAdd, Nat.reduceMul, Nat.reduceSub, Nat.reduceBEq, ↓reduceIte, bne_self_eq_false, Bool.and_false, Bool.false_and, Bool.true_or, Bool.false_or, so_add so, so_add sa, two, w1])
              | refine k_of (by assumption) ?_
              | refine tr_block ?_
              | refine tr_scope ?_
              | (refine tr_skip ?_; try simp only [ex_seq, ex_block])
              | (refine tr_label ?_; try simp only [ex_seq, ex_block])
              | (refine tr_exit ?_; try simp only [ex_seq_exit, ex_block_exit, Nat.reduceEqDiff, if_true, if_false, ex_seq, ex_block, reduceCtorEq, ↓reduceIte])
              | (refine tr_ret ?_; try simp only [ex_seq_ret, ex_block_ret]))
          refine hK (o ++ t, t ++ t, k / 2) _ _ ⟨?_, ?_, by dsimp only; omega⟩ ⟨⟨rfl, rfl, rfl, trivial⟩, Keep.refl _, rfl, rfl, Nat.le_refl _, Nat.le_refl _⟩ (by dsimp only; omega)
          · dsimp only
            have e : k = 2 * (k / 2) + 1 := by omega
            rw [repS_two, ← h1]
            conv => rhs; rw [e]
            simp only [repS, ByteArray.append_assoc]
          · have e : k = 2 * (k / 2) + 1 := by omega
            have e2 : t.size * k = t.size * (2 * (k / 2)) + t.size := by
              conv => lhs; rw [e]
              rw [Nat.mul_add, Nat.mul_one]
            have e3 : (t.size + t.size) * (k / 2) = t.size * (2 * (k / 2)) := by rw [← Nat.two_mul, Nat.mul_comm 2, Nat.mul_assoc]
            simp only [ByteArray.size_append, e3]
            omega
        · cases hf
      · cases hf
    | false =>
      have h5' : ¬ k % 2 = 1 := by
        have := ne_of_beq_false h5
        omega
      repeat (first
          | refine tr_seq_k fun _ _ => ?_
          | (refine tr_region ?_; simp only [go_sem, List.getElem?_toArray, str_beq, reduceCtorEq, Nat.reduceEqDiff, Nat.reduceLT, Nat.reduceLeDiff, Nat.reduceAdd, Nat.reduceMul, Nat.reduceSub, Nat.reduceBEq, ↓reduceIte, bne_self_eq_false, Bool.and_false, Bool.false_and, Bool.true_or, Bool.false_or, d1, two, w2, h5])
          | refine k_of (by assumption) ?_
          | refine tr_block ?_
          | refine tr_scope ?_
          | (refine tr_skip ?_; try simp only [ex_seq, ex_block])
          | (refine tr_label ?_; try simp only [ex_seq, ex_block])
          | (refine tr_exit ?_; try simp only [ex_seq_exit, ex_block_exit, Nat.reduceEqDiff, if_true, if_false, ex_seq, ex_block, reduceCtorEq, ↓reduceIte])
          | (refine tr_ret ?_; try simp only [ex_seq_ret, ex_block_ret]))
      refine tr_cond rfl (fun ht => ?_) (fun hf => ?_)
      · repeat (first
            | refine tr_seq_k fun _ _ => ?_
            | (refine tr_region ?_; simp only [go_sem, List.getElem?_toArray, str_beq, reduceCtorEq, Nat.reduceEqDiff, Nat.reduceLT, Nat.reduceLeDiff, Nat.reduceAdd, Nat.reduceMul, Nat.reduceSub, Nat.reduceBEq, ↓reduceIte, bne_self_eq_false, Bool.and_false, Bool.false_and, Bool.true_or, Bool.false_or, d1, two, w2, h5])
            | refine k_of (by assumption) ?_
            | refine tr_block ?_
            | refine tr_scope ?_
            | (refine tr_skip ?_; try simp only [ex_seq, ex_block])
            | (refine tr_label ?_; try simp only [ex_seq, ex_block])
            | (refine tr_exit ?_; try simp only [ex_seq_exit, ex_block_exit, Nat.reduceEqDiff, if_true, if_false, ex_seq, ex_block, reduceCtorEq, ↓reduceIte])
            | (refine tr_ret ?_; try simp only [ex_seq_ret, ex_block_ret]))
        refine tr_cond rfl (fun ht => ?_) (fun hf => ?_)
        · cases ht
        · repeat (first
              | refine tr_seq_k fun _ _ => ?_
              | (refine tr_region ?_; simp only [go_sem, List.getElem?_toArray, str_beq, reduceCtorEq, Nat.reduceEqDiff, Nat.reduceLT, Nat.reduceLeDiff, Nat.reduceAdd, Nat.reduceMul, Nat.reduceSub, Nat.reduceBEq, ↓reduceIte, bne_self_eq_false, Bool.and_false, Bool.false_and, Bool.true_or, Bool.false_or, so_add so, so_add sa, two, w1])
              | refine k_of (by assumption) ?_
              | refine tr_block ?_
              | refine tr_scope ?_
              | (refine tr_skip ?_; try simp only [ex_seq, ex_block])
              | (refine tr_label ?_; try simp only [ex_seq, ex_block])
              | (refine tr_exit ?_; try simp only [ex_seq_exit, ex_block_exit, Nat.reduceEqDiff, if_true, if_false, ex_seq, ex_block, reduceCtorEq, ↓reduceIte])
              | (refine tr_ret ?_; try simp only [ex_seq_ret, ex_block_ret]))
          have e : k = 2 * (k / 2) := by omega
          refine hK (o, t ++ t, k / 2) _ _ ⟨?_, ?_, by dsimp only; omega⟩ ⟨⟨rfl, rfl, rfl, trivial⟩, Keep.refl _, rfl, rfl, Nat.le_refl _, Nat.le_refl _⟩ (by dsimp only; omega)
          · dsimp only
            rw [repS_two, ← h1]
            conv => rhs; rw [e]
          · have e2 : t.size * k = t.size * (2 * (k / 2)) := by
              conv => lhs; rw [e]
            have e3 : (t.size + t.size) * (k / 2) = t.size * (2 * (k / 2)) := by rw [← Nat.two_mul, Nat.mul_comm 2, Nat.mul_assoc]
            simp only [ByteArray.size_append, e3]
            omega
      · cases hf

theorem kp_wf {m m' : Mm} {S S' : List Nat} (k : Kp m m' S S') : Wf m' := k.wf
theorem wf0 : Wf ⟨[], []⟩ := rfl
theorem lives_does : Does Try.prog 7 [] (fun m => (bA true, m)) := by
  obtain ⟨m0, b, S0, c0, t0, k0⟩ := new_gives wf0
  obtain ⟨m1, S1, c1, t1, k1⟩ := take_tab t0 k0.wf ⟨#[97]⟩ (by decide) (by decide)
  have e1 : takeS [] ⟨#[97]⟩ = ((0, 0), [(⟨#[97]⟩, 1)]) := by decide
  rw [e1] at c1 t1
  obtain ⟨m2, S2, c2, t2, k2⟩ := take_tab t1 k1.wf ⟨#[98]⟩ (by decide) (by decide)
  have e2 : takeS [(⟨#[97]⟩, 1)] ⟨#[98]⟩ = ((1, 0), [(⟨#[97]⟩, 1), (⟨#[98]⟩, 1)]) := by decide
  rw [e2] at c2 t2
  obtain ⟨m3, S3, c3, t3, k3⟩ := take_tab t2 k2.wf ⟨#[97]⟩ (by decide) (by decide)
  have e3 : takeS [(⟨#[97]⟩, 1), (⟨#[98]⟩, 1)] ⟨#[97]⟩ = ((0, 0), [(⟨#[97]⟩, 2), (⟨#[98]⟩, 1)]) := by decide
  rw [e3] at c3 t3
  obtain ⟨m4, S4, c4, t4, k4⟩ := drop_tab t3 k3.wf 0 (by decide) (by decide)
  have e4 : dropS [(⟨#[97]⟩, 2), (⟨#[98]⟩, 1)] 0 = (0, [(⟨#[97]⟩, 1), (⟨#[98]⟩, 1)]) := by decide
  rw [e4] at c4 t4
  obtain ⟨m5, S5, c5, t5, k5⟩ := drop_tab t4 k4.wf 0 (by decide) (by decide)
  have e5 : dropS [(⟨#[97]⟩, 1), (⟨#[98]⟩, 1)] 0 = (0, [(emp, 0), (⟨#[98]⟩, 1)]) := by decide
  rw [e5] at c5 t5
  obtain ⟨m6, S6, c6, t6, k6⟩ := take_tab t5 k5.wf ⟨#[99]⟩ (by decide) (by decide)
  have e6 : takeS [(emp, 0), (⟨#[98]⟩, 1)] ⟨#[99]⟩ = ((0, 0), [(⟨#[99]⟩, 1), (⟨#[98]⟩, 1)]) := by decide
  rw [e6] at c6 t6
  refine does_of' Try.func7 rfl (by kernel_rfl) rfl Try.ntmps7 rfl rfl fun Q hQ => ?_
  have z0 : ((0 : Nat) : Int) = 0 := rfl
  have z1 : ((1 : Nat) : Int) = 1 := rfl
  repeat (first
      | refine tr_seq_k fun _ _ => ?_
      | (refine tr_region ?_; simp only [go_sem, List.getElem?_toArray, str_beq, reduceCtorEq, Nat.reduceEqDiff, Nat.reduceLT, Nat.reduceLeDiff, Nat.reduceAdd, Nat.reduceMul, Nat.reduceSub, Nat.reduceBEq, ↓reduceIte, bne_self_eq_false, Bool.and_false, Bool.false_and, Bool.true_or, Bool.false_or, z0, z1])
      | (refine call_givesW (c0) ?_; (try dsimp only); (try simp only [go_sem, List.getElem?_toArray, str_beq, reduceCtorEq, Nat.reduceEqDiff, Nat.reduceLT, Nat.reduceLeDiff, Nat.reduceAdd, Nat.reduceMul, Nat.reduceSub, Nat.reduceBEq, ↓reduceIte, bne_self_eq_false, Bool.and_false, Bool.false_and, Bool.true_or, Bool.false_or, z0, z1]))
      | (refine call_givesW (c1) ?_; (try dsimp only); (try simp only [go_sem, List.getElem?_toArray, str_beq, reduceCtorEq, Nat.reduceEqDiff, Nat.reduceLT, Nat.reduceLeDiff, Nat.reduceAdd, Nat.reduceMul, Nat.reduceSub, Nat.reduceBEq, ↓reduceIte, bne_self_eq_false, Bool.and_false, Bool.false_and, Bool.true_or, Bool.false_or, z0, z1]))
      | (refine call_givesW (c2) ?_; (try dsimp only); (try simp only [go_sem, List.getElem?_toArray, str_beq, reduceCtorEq, Nat.reduceEqDiff, Nat.reduceLT, Nat.reduceLeDiff, Nat.reduceAdd, Nat.reduceMul, Nat.reduceSub, Nat.reduceBEq, ↓reduceIte, bne_self_eq_false, Bool.and_false, Bool.false_and, Bool.true_or, Bool.false_or, z0, z1]))
      | (refine call_givesW (c3) ?_; (try dsimp only); (try simp only [go_sem, List.getElem?_toArray, str_beq, reduceCtorEq, Nat.reduceEqDiff, Nat.reduceLT, Nat.reduceLeDiff, Nat.reduceAdd, Nat.reduceMul, Nat.reduceSub, Nat.reduceBEq, ↓reduceIte, bne_self_eq_false, Bool.and_false, Bool.false_and, Bool.true_or, Bool.false_or, z0, z1]))
      | refine k_of (by assumption) ?_
      | refine tr_block ?_
      | refine tr_scope ?_
      | (refine tr_skip ?_; try simp only [ex_seq, ex_block])
      | (refine tr_label ?_; try simp only [ex_seq, ex_block])
      | (refine tr_exit ?_; try simp only [ex_seq_exit, ex_block_exit, Nat.reduceEqDiff, if_true, if_false, ex_seq, ex_block, reduceCtorEq, ↓reduceIte])
      | (refine tr_ret ?_; try simp only [ex_seq_ret, ex_block_ret]))
  refine tr_cond rfl (fun ht => ?_) (fun hf => ?_)
  · cases ht
  · repeat (first
        | refine tr_seq_k fun _ _ => ?_
        | (refine tr_region ?_; simp only [go_sem, List.getElem?_toArray, str_beq, reduceCtorEq, Nat.reduceEqDiff, Nat.reduceLT, Nat.reduceLeDiff, Nat.reduceAdd, Nat.reduceMul, Nat.reduceSub, Nat.reduceBEq, ↓reduceIte, bne_self_eq_false, Bool.and_false, Bool.false_and, Bool.true_or, Bool.false_or, z0, z1])
        | (refine call_givesW (c4) ?_; (try dsimp only); (try simp only [go_sem, List.getElem?_toArray, str_beq, reduceCtorEq, Nat.reduceEqDiff, Nat.reduceLT, Nat.reduceLeDiff, Nat.reduceAdd, Nat.reduceMul, Nat.reduceSub, Nat.reduceBEq, ↓reduceIte, bne_self_eq_false, Bool.and_false, Bool.false_and, Bool.true_or, Bool.false_or, z0, z1]))
        | (refine call_givesW (c5) ?_; (try dsimp only); (try simp only [go_sem, List.getElem?_toArray, str_beq, reduceCtorEq, Nat.reduceEqDiff, Nat.reduceLT, Nat.reduceLeDiff, Nat.reduceAdd, Nat.reduceMul, Nat.reduceSub, Nat.reduceBEq, ↓reduceIte, bne_self_eq_false, Bool.and_false, Bool.false_and, Bool.true_or, Bool.false_or, z0, z1]))
        | (refine call_givesW (c6) ?_; (try dsimp only); (try simp only [go_sem, List.getElem?_toArray, str_beq, reduceCtorEq, Nat.reduceEqDiff, Nat.reduceLT, Nat.reduceLeDiff, Nat.reduceAdd, Nat.reduceMul, Nat.reduceSub, Nat.reduceBEq, ↓reduceIte, bne_self_eq_false, Bool.and_false, Bool.false_and, Bool.true_or, Bool.false_or, z0, z1]))
        | refine k_of (by assumption) ?_
        | refine tr_block ?_
        | refine tr_scope ?_
        | (refine tr_skip ?_; try simp only [ex_seq, ex_block])
        | (refine tr_label ?_; try simp only [ex_seq, ex_block])
        | (refine tr_exit ?_; try simp only [ex_seq_exit, ex_block_exit, Nat.reduceEqDiff, if_true, if_false, ex_seq, ex_block, reduceCtorEq, ↓reduceIte])
        | (refine tr_ret ?_; try simp only [ex_seq_ret, ex_block_ret]))
    refine (hQ _ _ [bA true] ?_ (fun m => ?_)).2 <;> simp only [go_sem, List.getElem?_toArray, str_beq, reduceCtorEq, Nat.reduceEqDiff, Nat.reduceLT, Nat.reduceLeDiff, Nat.reduceAdd, Nat.reduceMul, Nat.reduceSub, Nat.reduceBEq, ↓reduceIte, bne_self_eq_false, Bool.and_false, Bool.false_and, Bool.true_or, Bool.false_or, Try.f7, z0]
end Go.Proofs.Ytlhlcfijpdknfaa

/-
  Chapter 2, the document's answer: a table in memory: New, has, Find, Len, Text, Uses.
-/
set_option linter.unusedSimpArgs false
set_option linter.unusedVariables false
namespace Go.Proofs.Ytlhlcfijpdknfaa
open Go.Vs Go.Vs.Ab Go.Vs.Hp Go.Vs.Tb
set_option maxRecDepth 100000
set_option maxHeartbeats 4000000

theorem st_hk (s : ByteArray) : (stC s).length = 1 := rfl
theorem st_get {L : List ByteArray} {i : Nat} (h : i < L.length) : (blC stC L)[i]? = some (sA L[i]) := by
  have := blC_get st_hk h (j := 0) (by decide)
  rw [Nat.mul_one, Nat.add_zero] at this
  exact this
theorem st_len (L : List ByteArray) : (blC stC L).length = L.length := by rw [len_blC st_hk, Nat.mul_one]
theorem st_set {L : List ByteArray} {i : Nat} (h : i < L.length) (x : ByteArray) : List.take i (blC stC L) ++ [sA x] ++ List.drop (i + 1) (blC stC L) = blC stC (L.set i x) := by
  have := set_blC (enc := stC) st_hk h x
  rw [Nat.mul_one] at this
  exact this
theorem st_idx {b n i : Nat} (h : i < n) : aIndexL Try.prog 54 (.lsl b 0 n 1) (iA i) = some (.ptr b i) := by
  have := idxL (P := Try.prog) (size := 1) Try.underlying54 sz9 (by decide) (b := b) (lo := 0) (ik := .i64) h
  simpa using this
theorem st_fit {L : List ByteArray} {i : Nat} (h : i < L.length) : (i + 1 ≤ (blC stC L).length) = True := eq_true (by rw [st_len]; omega)
theorem row_getG {T : Type} {enc : T → List CV} {size : Nat} {m : Mm} {c : AV} {l : List T} {s : List Nat} (h : RowAt m enc size c l s) {k : Nat} (hk : k < l.length) : ∃ h L, c = .lsl h 0 l.length size ∧ s = [h] ∧ m.hp[h]? = some ⟨false, blC enc L⟩ ∧ l = L.take l.length ∧ ∃ hkL : k < L.length, L[k] = l[k] := by
  rcases h with ⟨rfl, _⟩ | ⟨h, L, hc, hs, hL, hEL⟩
  · simp at hk
  · have hle : l.length ≤ L.length := by
      have := congrArg List.length hEL
      rw [List.length_take] at this
      omega
    exact ⟨h, L, hc, hs, hL, hEL, by omega, (take_get hEL hk _).symm⟩

def txE (E : List Ent) : List ByteArray := E.map Prod.fst
def usE (E : List Ent) : List Int := E.map fun e => (e.2 : Int)
theorem txE_len (E : List Ent) : (txE E).length = E.length := by simp [txE]
theorem usE_len (E : List Ent) : (usE E).length = E.length := by simp [usE]
theorem txE_get {E : List Ent} {k : Nat} (h : k < (txE E).length) : (txE E)[k] = (E[k]'(by rw [txE_len] at h; exact h)).1 := by simp [txE]
theorem usE_get {E : List Ent} {k : Nat} (h : k < (usE E).length) : (usE E)[k] = ((E[k]'(by rw [usE_len] at h; exact h)).2 : Int) := by simp [usE]

/-- The document's table in memory. -/
def RefM (m : Mm) (b : Nat) (E : List Ent) (S : List Nat) : Prop := ∃ c1 c2 s1 s2, m.hp[b]? = some ⟨false, [c1, c2]⟩ ∧ RowAt m stC 1 c1 (txE E) s1 ∧ RowAt m inC 1 c2 (usE E) s2 ∧ S = b :: (s1 ++ s2) ∧ S.Nodup
theorem RefM.keep {m m' : Mm} {S S' : List Nat} (k : Kp m m' S S') {b : Nat} {E : List Ent} {T : List Nat} (h : RefM m b E T) (hd : ∀ i ∈ T, i ∉ S) : RefM m' b E T := by
  obtain ⟨c1, c2, s1, s2, h1, h2, h3, h6, h7⟩ := h
  subst h6
  exact ⟨c1, c2, s1, s2, k.old b _ (hd b (by simp)) h1, h2.keep k (fun i hi => hd i (by simp [hi])), h3.keep k (fun i hi => hd i (by simp [hi])), rfl, h7⟩
theorem RefM.lt {m : Mm} {b : Nat} {E : List Ent} {T : List Nat} (h : RefM m b E T) : b < m.hp.length := by
  obtain ⟨c1, c2, s1, s2, h1, _⟩ := h
  exact (List.getElem?_eq_some_iff.1 h1).1

theorem rnew_gives {m : Mm} (hW : Wf m) : ∃ m' b S, GivesW Try.prog 19 [] m (.ptr b 0) m' ∧ RefM m' b [] S ∧ Kp m m' [] S := by
  refine ⟨⟨m.hp ++ [⟨false, [.c (.sl true 0 []), .c (.sl true 0 [])]⟩], m.hw⟩, m.hp.length, [m.hp.length], ?_, ?_, ?_⟩
  · refine givesW_of' Try.func19 rfl (by kernel_rfl) Try.ntmps19 rfl rfl fun Q hQ => ?_
    repeat (first
        | refine tr_seq_k fun _ _ => ?_
        | (refine tr_region ?_; simp only [go_sem, List.getElem?_toArray, str_beq, reduceCtorEq, Nat.reduceEqDiff, Nat.reduceLT, Nat.reduceLeDiff, Nat.reduceAdd, Nat.reduceMul, Nat.reduceSub, Nat.reduceBEq, ↓reduceIte, bne_self_eq_false, Bool.and_false, Bool.false_and, Bool.true_or, Bool.false_or])
        | refine k_of (by assumption) ?_
        | refine tr_block ?_
        | refine tr_scope ?_
        | (refine tr_skip ?_; try simp only [ex_seq, ex_block])
        | (refine tr_label ?_; try simp only [ex_seq, ex_block])
        | (refine tr_exit ?_; try simp only [ex_seq_exit, ex_block_exit, Nat.reduceEqDiff, if_true, if_false, ex_seq, ex_block, reduceCtorEq, ↓reduceIte])
        | (refine tr_ret ?_; try simp only [ex_seq_ret, ex_block_ret]))
    refine (hQ _ _ [.ptr m.hp.length 0] ?_ rfl rfl).2 <;> simp only [go_sem, List.getElem?_toArray, str_beq, reduceCtorEq, Nat.reduceEqDiff, Nat.reduceLT, Nat.reduceLeDiff, Nat.reduceAdd, Nat.reduceMul, Nat.reduceSub, Nat.reduceBEq, ↓reduceIte, bne_self_eq_false, Bool.and_false, Bool.false_and, Bool.true_or, Bool.false_or, Try.f19]
  · refine ⟨.c (.sl true 0 []), .c (.sl true 0 []), [], [], ?_, Or.inl ⟨rfl, rfl, rfl⟩, Or.inl ⟨rfl, rfl, rfl⟩, rfl, by simp⟩
    simp
  · refine ⟨rfl, by simp, fun i blk _ h => ?_, fun i h => Or.inr (by simp at h; omega), hW.add rfl⟩
    have := (List.getElem?_eq_some_iff.1 h).1
    rw [List.getElem?_append_left this]
    exact h

theorem rhas_gives {m : Mm} {b : Nat} {E : List Ent} {S : List Nat} (h : RefM m b E S) (n : Int) : GivesW Try.prog 36 [.ptr b 0, iA n] m (bA (hasS E n)) m := by
  obtain ⟨c1, c2, s1, s2, hb, hT, hU, hS, hnd⟩ := h
  have p1 := hT.plain1
  cases h0 : decide ((0 : Int) ≤ n) with
  | false =>
    have hr : hasS E n = false := by unfold hasS; rw [h0]; rfl
    refine givesW_of' Try.func36 rfl (by kernel_rfl) Try.ntmps36 rfl rfl fun Q hQ => ?_
    repeat (first
        | refine tr_seq_k fun _ _ => ?_
        | (refine tr_region ?_; simp only [go_sem, List.getElem?_toArray, str_beq, reduceCtorEq, Nat.reduceEqDiff, Nat.reduceLT, Nat.reduceLeDiff, Nat.reduceAdd, Nat.reduceMul, Nat.reduceSub, Nat.reduceBEq, ↓reduceIte, bne_self_eq_false, Bool.and_false, Bool.false_and, Bool.true_or, Bool.false_or, hb, h0, p1])
        | refine k_of (by assumption) ?_
        | refine tr_block ?_
        | refine tr_scope ?_
        | (refine tr_skip ?_; try simp only [ex_seq, ex_block])
        | (refine tr_label ?_; try simp only [ex_seq, ex_block])
        | (refine tr_exit ?_; try simp only [ex_seq_exit, ex_block_exit, Nat.reduceEqDiff, if_true, if_false, ex_seq, ex_block, reduceCtorEq, ↓reduceIte])
        | (refine tr_ret ?_; try simp only [ex_seq_ret, ex_block_ret]))
    refine (hQ _ _ [bA false] ?_ (by rw [hr]; rfl) rfl).2 <;> simp only [go_sem, List.getElem?_toArray, str_beq, reduceCtorEq, Nat.reduceEqDiff, Nat.reduceLT, Nat.reduceLeDiff, Nat.reduceAdd, Nat.reduceMul, Nat.reduceSub, Nat.reduceBEq, ↓reduceIte, bne_self_eq_false, Bool.and_false, Bool.false_and, Bool.true_or, Bool.false_or, Try.f36]
  | true =>
    obtain ⟨k, rfl⟩ : ∃ k : Nat, n = (k : Int) := ⟨n.toNat, by have := of_decide_eq_true h0; omega⟩
    by_cases hk : k < E.length
    · obtain ⟨h, L, rfl, _, hL, hEL, hkL, hg⟩ := row_getG hT (k := k) (by rw [txE_len]; exact hk)
      have h1 : decide ((k : Int) < (((txE E).length : Nat) : Int)) = true := decide_eq_true (by rw [txE_len]; omega)
      have hr : hasS E (k : Int) = !decide (L[k] = ⟨#[]⟩) := by
        unfold hasS
        rw [h0, Int.toNat_natCast, List.getElem?_eq_getElem hk, hg, txE_get]
        rfl
      have i1 := st_idx (b := h) (n := (txE E).length) (i := k) (by rw [txE_len]; exact hk)
      have g1 := st_get hkL
      refine givesW_of' Try.func36 rfl (by kernel_rfl) Try.ntmps36 rfl rfl fun Q hQ => ?_
      repeat (first
          | refine tr_seq_k fun _ _ => ?_
          | (refine tr_region ?_; simp only [go_sem, List.getElem?_toArray, str_beq, reduceCtorEq, Nat.reduceEqDiff, Nat.reduceLT, Nat.reduceLeDiff, Nat.reduceAdd, Nat.reduceMul, Nat.reduceSub, Nat.reduceBEq, ↓reduceIte, bne_self_eq_false, Bool.and_false, Bool.false_and, Bool.true_or, Bool.false_or, hb, h0, h1, hL, i1, g1])
          | refine k_of (by assumption) ?_
          | refine tr_block ?_
          | refine tr_scope ?_
          | (refine tr_skip ?_; try simp only [ex_seq, ex_block])
          | (refine tr_label ?_; try simp only [ex_seq, ex_block])
          | (refine tr_exit ?_; try simp only [ex_seq_exit, ex_block_exit, Nat.reduceEqDiff, if_true, if_false, ex_seq, ex_block, reduceCtorEq, ↓reduceIte])
          | (refine tr_ret ?_; try simp only [ex_seq_ret, ex_block_ret]))
      refine (hQ _ _ [bA (!decide (L[k] = ⟨#[]⟩))] ?_ (by rw [hr]; rfl) rfl).2 <;> simp only [go_sem, List.getElem?_toArray, str_beq, reduceCtorEq, Nat.reduceEqDiff, Nat.reduceLT, Nat.reduceLeDiff, Nat.reduceAdd, Nat.reduceMul, Nat.reduceSub, Nat.reduceBEq, ↓reduceIte, bne_self_eq_false, Bool.and_false, Bool.false_and, Bool.true_or, Bool.false_or, Try.f36]
    · have h1 : decide ((k : Int) < (((txE E).length : Nat) : Int)) = false := decide_eq_false (by rw [txE_len]; omega)
      have hr : hasS E (k : Int) = false := by
        unfold hasS
        rw [Int.toNat_natCast, List.getElem?_eq_none (by omega)]
        simp
      rcases slV_row hT with ⟨cs, hv, hv2⟩ | ⟨b', hv, hv2⟩
      · refine givesW_of' Try.func36 rfl (by kernel_rfl) Try.ntmps36 rfl rfl fun Q hQ => ?_
        repeat (first
            | refine tr_seq_k fun _ _ => ?_
            | (refine tr_region ?_; simp only [go_sem, List.getElem?_toArray, str_beq, reduceCtorEq, Nat.reduceEqDiff, Nat.reduceLT, Nat.reduceLeDiff, Nat.reduceAdd, Nat.reduceMul, Nat.reduceSub, Nat.reduceBEq, ↓reduceIte, bne_self_eq_false, Bool.and_false, Bool.false_and, Bool.true_or, Bool.false_or, hb, h0, p1, h1, hv, hv2])
            | refine k_of (by assumption) ?_
            | refine tr_block ?_
            | refine tr_scope ?_
            | (refine tr_skip ?_; try simp only [ex_seq, ex_block])
            | (refine tr_label ?_; try simp only [ex_seq, ex_block])
            | (refine tr_exit ?_; try simp only [ex_seq_exit, ex_block_exit, Nat.reduceEqDiff, if_true, if_false, ex_seq, ex_block, reduceCtorEq, ↓reduceIte])
            | (refine tr_ret ?_; try simp only [ex_seq_ret, ex_block_ret]))
        refine (hQ _ _ [bA false] ?_ (by rw [hr]; rfl) rfl).2 <;> simp only [go_sem, List.getElem?_toArray, str_beq, reduceCtorEq, Nat.reduceEqDiff, Nat.reduceLT, Nat.reduceLeDiff, Nat.reduceAdd, Nat.reduceMul, Nat.reduceSub, Nat.reduceBEq, ↓reduceIte, bne_self_eq_false, Bool.and_false, Bool.false_and, Bool.true_or, Bool.false_or, Try.f36]
      · refine givesW_of' Try.func36 rfl (by kernel_rfl) Try.ntmps36 rfl rfl fun Q hQ => ?_
        repeat (first
            | refine tr_seq_k fun _ _ => ?_
            | (refine tr_region ?_; simp only [go_sem, List.getElem?_toArray, str_beq, reduceCtorEq, Nat.reduceEqDiff, Nat.reduceLT, Nat.reduceLeDiff, Nat.reduceAdd, Nat.reduceMul, Nat.reduceSub, Nat.reduceBEq, ↓reduceIte, bne_self_eq_false, Bool.and_false, Bool.false_and, Bool.true_or, Bool.false_or, hb, h0, p1, h1, hv, hv2])
            | refine k_of (by assumption) ?_
            | refine tr_block ?_
            | refine tr_scope ?_
            | (refine tr_skip ?_; try simp only [ex_seq, ex_block])
            | (refine tr_label ?_; try simp only [ex_seq, ex_block])
            | (refine tr_exit ?_; try simp only [ex_seq_exit, ex_block_exit, Nat.reduceEqDiff, if_true, if_false, ex_seq, ex_block, reduceCtorEq, ↓reduceIte])
            | (refine tr_ret ?_; try simp only [ex_seq_ret, ex_block_ret]))
        refine (hQ _ _ [bA false] ?_ (by rw [hr]; rfl) rfl).2 <;> simp only [go_sem, List.getElem?_toArray, str_beq, reduceCtorEq, Nat.reduceEqDiff, Nat.reduceLT, Nat.reduceLeDiff, Nat.reduceAdd, Nat.reduceMul, Nat.reduceSub, Nat.reduceBEq, ↓reduceIte, bne_self_eq_false, Bool.and_false, Bool.false_and, Bool.true_or, Bool.false_or, Try.f36]

theorem rtext_gives {m : Mm} {b : Nat} {E : List Ent} {S : List Nat} (h : RefM m b E S) (n : Int) : GivesW Try.prog 22 [.ptr b 0, iA n] m (.tup [sA (textS E n), iA (if hasS E n then 0 else 13)]) m := by
  have hh := rhas_gives h n
  obtain ⟨c1, c2, s1, s2, hb, hT, hU, hS, hnd⟩ := h
  have p1 := hT.plain1
  cases h0 : hasS E n with
  | false =>
    rw [h0] at hh
    have hr : textS E n = emp := by unfold textS; rw [h0]; rfl
    rw [hr]
    refine givesW_of' Try.func22 rfl (by kernel_rfl) Try.ntmps22 rfl rfl fun Q hQ => ?_
    repeat (first
        | refine tr_seq_k fun _ _ => ?_
        | (refine tr_region ?_; simp only [go_sem, List.getElem?_toArray, str_beq, reduceCtorEq, Nat.reduceEqDiff, Nat.reduceLT, Nat.reduceLeDiff, Nat.reduceAdd, Nat.reduceMul, Nat.reduceSub, Nat.reduceBEq, ↓reduceIte, bne_self_eq_false, Bool.and_false, Bool.false_and, Bool.true_or, Bool.false_or])
        | (refine call_givesW (hh) ?_; (try dsimp only); (try simp only [go_sem, List.getElem?_toArray, str_beq, reduceCtorEq, Nat.reduceEqDiff, Nat.reduceLT, Nat.reduceLeDiff, Nat.reduceAdd, Nat.reduceMul, Nat.reduceSub, Nat.reduceBEq, ↓reduceIte, bne_self_eq_false, Bool.and_false, Bool.false_and, Bool.true_or, Bool.false_or]))
        | refine k_of (by assumption) ?_
        | refine tr_block ?_
        | refine tr_scope ?_
        | (refine tr_skip ?_; try simp only [ex_seq, ex_block])
        | (refine tr_label ?_; try simp only [ex_seq, ex_block])
        | (refine tr_exit ?_; try simp only [ex_seq_exit, ex_block_exit, Nat.reduceEqDiff, if_true, if_false, ex_seq, ex_block, reduceCtorEq, ↓reduceIte])
        | (refine tr_ret ?_; try simp only [ex_seq_ret, ex_block_ret]))
    refine tr_cond rfl (fun ht => ?_) (fun hf => ?_)
    · repeat (first
          | refine tr_seq_k fun _ _ => ?_
          | (refine tr_region ?_; simp only [go_sem, List.getElem?_toArray, str_beq, reduceCtorEq, Nat.reduceEqDiff, Nat.reduceLT, Nat.reduceLeDiff, Nat.reduceAdd, Nat.reduceMul, Nat.reduceSub, Nat.reduceBEq, ↓reduceIte, bne_self_eq_false, Bool.and_false, Bool.false_and, Bool.true_or, Bool.false_or])
          | refine k_of (by assumption) ?_
          | refine tr_block ?_
          | refine tr_scope ?_
          | (refine tr_skip ?_; try simp only [ex_seq, ex_block])
          | (refine tr_label ?_; try simp only [ex_seq, ex_block])
          | (refine tr_exit ?_; try simp only [ex_seq_exit, ex_block_exit, Nat.reduceEqDiff, if_true, if_false, ex_seq, ex_block, reduceCtorEq, ↓reduceIte])
          | (refine tr_ret ?_; try simp only [ex_seq_ret, ex_block_ret]))
      refine (hQ _ _ [sA ⟨#[]⟩, iA 13] ?_ rfl rfl).2 <;> simp only [go_sem, List.getElem?_toArray, str_beq, reduceCtorEq, Nat.reduceEqDiff, Nat.reduceLT, Nat.reduceLeDiff, Nat.reduceAdd, Nat.reduceMul, Nat.reduceSub, Nat.reduceBEq, ↓reduceIte, bne_self_eq_false, Bool.and_false, Bool.false_and, Bool.true_or, Bool.false_or, Try.f22]
    · cases hf
  | true =>
    rw [h0] at hh
    obtain ⟨k, rfl, hk, hne⟩ := hasS_spec h0
    obtain ⟨h, L, rfl, _, hL, hEL, hkL, hg⟩ := row_getG hT (k := k) (by rw [txE_len]; exact hk)
    have hr : textS E (k : Int) = L[k] := by
      unfold textS
      rw [h0, if_pos rfl, Int.toNat_natCast, getD_at hk, hg, txE_get]
    rw [hr]
    have i1 := st_idx (b := h) (n := (txE E).length) (i := k) (by rw [txE_len]; exact hk)
    have g1 := st_get hkL
    refine givesW_of' Try.func22 rfl (by kernel_rfl) Try.ntmps22 rfl rfl fun Q hQ => ?_
    repeat (first
        | refine tr_seq_k fun _ _ => ?_
        | (refine tr_region ?_; simp only [go_sem, List.getElem?_toArray, str_beq, reduceCtorEq, Nat.reduceEqDiff, Nat.reduceLT, Nat.reduceLeDiff, Nat.reduceAdd, Nat.reduceMul, Nat.reduceSub, Nat.reduceBEq, ↓reduceIte, bne_self_eq_false, Bool.and_false, Bool.false_and, Bool.true_or, Bool.false_or])
        | (refine call_givesW (hh) ?_; (try dsimp only); (try simp only [go_sem, List.getElem?_toArray, str_beq, reduceCtorEq, Nat.reduceEqDiff, Nat.reduceLT, Nat.reduceLeDiff, Nat.reduceAdd, Nat.reduceMul, Nat.reduceSub, Nat.reduceBEq, ↓reduceIte, bne_self_eq_false, Bool.and_false, Bool.false_and, Bool.true_or, Bool.false_or]))
        | refine k_of (by assumption) ?_
        | refine tr_block ?_
        | refine tr_scope ?_
        | (refine tr_skip ?_; try simp only [ex_seq, ex_block])
        | (refine tr_label ?_; try simp only [ex_seq, ex_block])
        | (refine tr_exit ?_; try simp only [ex_seq_exit, ex_block_exit, Nat.reduceEqDiff, if_true, if_false, ex_seq, ex_block, reduceCtorEq, ↓reduceIte])
        | (refine tr_ret ?_; try simp only [ex_seq_ret, ex_block_ret]))
    refine tr_cond rfl (fun ht => ?_) (fun hf => ?_)
    · cases ht
    · repeat (first
          | refine tr_seq_k fun _ _ => ?_
          | (refine tr_region ?_; simp only [go_sem, List.getElem?_toArray, str_beq, reduceCtorEq, Nat.reduceEqDiff, Nat.reduceLT, Nat.reduceLeDiff, Nat.reduceAdd, Nat.reduceMul, Nat.reduceSub, Nat.reduceBEq, ↓reduceIte, bne_self_eq_false, Bool.and_false, Bool.false_and, Bool.true_or, Bool.false_or, hb, p1, hL, i1, g1])
          | refine k_of (by assumption) ?_
          | refine tr_block ?_
          | refine tr_scope ?_
          | (refine tr_skip ?_; try simp only [ex_seq, ex_block])
          | (refine tr_label ?_; try simp only [ex_seq, ex_block])
          | (refine tr_exit ?_; try simp only [ex_seq_exit, ex_block_exit, Nat.reduceEqDiff, if_true, if_false, ex_seq, ex_block, reduceCtorEq, ↓reduceIte])
          | (refine tr_ret ?_; try simp only [ex_seq_ret, ex_block_ret]))
      refine (hQ _ _ [sA L[k], iA 0] ?_ rfl rfl).2 <;> simp only [go_sem, List.getElem?_toArray, str_beq, reduceCtorEq, Nat.reduceEqDiff, Nat.reduceLT, Nat.reduceLeDiff, Nat.reduceAdd, Nat.reduceMul, Nat.reduceSub, Nat.reduceBEq, ↓reduceIte, bne_self_eq_false, Bool.and_false, Bool.false_and, Bool.true_or, Bool.false_or, Try.f22]
theorem ruses_gives {m : Mm} {b : Nat} {E : List Ent} {S : List Nat} (h : RefM m b E S) (n : Int) : GivesW Try.prog 25 [.ptr b 0, iA n] m (iA (usesS E n : Nat)) m := by
  have hh := rhas_gives h n
  obtain ⟨c1, c2, s1, s2, hb, hT, hU, hS, hnd⟩ := h
  have p1 := hT.plain1
  cases h0 : hasS E n with
  | false =>
    rw [h0] at hh
    have hr : usesS E n = 0 := by unfold usesS; rw [h0]; rfl
    rw [hr]
    refine givesW_of' Try.func25 rfl (by kernel_rfl) Try.ntmps25 rfl rfl fun Q hQ => ?_
    repeat (first
        | refine tr_seq_k fun _ _ => ?_
        | (refine tr_region ?_; simp only [go_sem, List.getElem?_toArray, str_beq, reduceCtorEq, Nat.reduceEqDiff, Nat.reduceLT, Nat.reduceLeDiff, Nat.reduceAdd, Nat.reduceMul, Nat.reduceSub, Nat.reduceBEq, ↓reduceIte, bne_self_eq_false, Bool.and_false, Bool.false_and, Bool.true_or, Bool.false_or])
        | (refine call_givesW (hh) ?_; (try dsimp only); (try simp only [go_sem, List.getElem?_toArray, str_beq, reduceCtorEq, Nat.reduceEqDiff, Nat.reduceLT, Nat.reduceLeDiff, Nat.reduceAdd, Nat.reduceMul, Nat.reduceSub, Nat.reduceBEq, ↓reduceIte, bne_self_eq_false, Bool.and_false, Bool.false_and, Bool.true_or, Bool.false_or]))
        | refine k_of (by assumption) ?_
        | refine tr_block ?_
        | refine tr_scope ?_
        | (refine tr_skip ?_; try simp only [ex_seq, ex_block])
        | (refine tr_label ?_; try simp only [ex_seq, ex_block])
        | (refine tr_exit ?_; try simp only [ex_seq_exit, ex_block_exit, Nat.reduceEqDiff, if_true, if_false, ex_seq, ex_block, reduceCtorEq, ↓reduceIte])
        | (refine tr_ret ?_; try simp only [ex_seq_ret, ex_block_ret]))
    refine tr_cond rfl (fun ht => ?_) (fun hf => ?_)
    · repeat (first
          | refine tr_seq_k fun _ _ => ?_
          | (refine tr_region ?_; simp only [go_sem, List.getElem?_toArray, str_beq, reduceCtorEq, Nat.reduceEqDiff, Nat.reduceLT, Nat.reduceLeDiff, Nat.reduceAdd, Nat.reduceMul, Nat.reduceSub, Nat.reduceBEq, ↓reduceIte, bne_self_eq_false, Bool.and_false, Bool.false_and, Bool.true_or, Bool.false_or])
          | refine k_of (by assumption) ?_
          | refine tr_block ?_
          | refine tr_scope ?_
          | (refine tr_skip ?_; try simp only [ex_seq, ex_block])
          | (refine tr_label ?_; try simp only [ex_seq, ex_block])
          | (refine tr_exit ?_; try simp only [ex_seq_exit, ex_block_exit, Nat.reduceEqDiff, if_true, if_false, ex_seq, ex_block, reduceCtorEq, ↓reduceIte])
          | (refine tr_ret ?_; try simp only [ex_seq_ret, ex_block_ret]))
      refine (hQ _ _ [iA 0] ?_ rfl rfl).2 <;> simp only [go_sem, List.getElem?_toArray, str_beq, reduceCtorEq, Nat.reduceEqDiff, Nat.reduceLT, Nat.reduceLeDiff, Nat.reduceAdd, Nat.reduceMul, Nat.reduceSub, Nat.reduceBEq, ↓reduceIte, bne_self_eq_false, Bool.and_false, Bool.false_and, Bool.true_or, Bool.false_or, Try.f25]
    · cases hf
  | true =>
    rw [h0] at hh
    obtain ⟨k, rfl, hk, hne⟩ := hasS_spec h0
    obtain ⟨h, L, rfl, _, hL, hEL, hkL, hg⟩ := row_getG hU (k := k) (by rw [usE_len]; exact hk)
    have hr : ((usesS E (k : Int) : Nat) : Int) = L[k] := by
      unfold usesS
      rw [h0, if_pos rfl, Int.toNat_natCast, getD_at hk, hg, usE_get]
    rw [hr]
    have i1 := in_idx Try.underlying55 (b := h) (n := (usE E).length) (i := k) (by rw [usE_len]; exact hk)
    have g1 := in_get hkL
    refine givesW_of' Try.func25 rfl (by kernel_rfl) Try.ntmps25 rfl rfl fun Q hQ => ?_
    repeat (first
        | refine tr_seq_k fun _ _ => ?_
        | (refine tr_region ?_; simp only [go_sem, List.getElem?_toArray, str_beq, reduceCtorEq, Nat.reduceEqDiff, Nat.reduceLT, Nat.reduceLeDiff, Nat.reduceAdd, Nat.reduceMul, Nat.reduceSub, Nat.reduceBEq, ↓reduceIte, bne_self_eq_false, Bool.and_false, Bool.false_and, Bool.true_or, Bool.false_or])
        | (refine call_givesW (hh) ?_; (try dsimp only); (try simp only [go_sem, List.getElem?_toArray, str_beq, reduceCtorEq, Nat.reduceEqDiff, Nat.reduceLT, Nat.reduceLeDiff, Nat.reduceAdd, Nat.reduceMul, Nat.reduceSub, Nat.reduceBEq, ↓reduceIte, bne_self_eq_false, Bool.and_false, Bool.false_and, Bool.true_or, Bool.false_or]))
        | refine k_of (by assumption) ?_
        | refine tr_block ?_
        | refine tr_scope ?_
        | (refine tr_skip ?_; try simp only [ex_seq, ex_block])
        | (refine tr_label ?_; try simp only [ex_seq, ex_block])
        | (refine tr_exit ?_; try simp only [ex_seq_exit, ex_block_exit, Nat.reduceEqDiff, if_true, if_false, ex_seq, ex_block, reduceCtorEq, ↓reduceIte])
        | (refine tr_ret ?_; try simp only [ex_seq_ret, ex_block_ret]))
    refine tr_cond rfl (fun ht => ?_) (fun hf => ?_)
    · cases ht
    · repeat (first
          | refine tr_seq_k fun _ _ => ?_
          | (refine tr_region ?_; simp only [go_sem, List.getElem?_toArray, str_beq, reduceCtorEq, Nat.reduceEqDiff, Nat.reduceLT, Nat.reduceLeDiff, Nat.reduceAdd, Nat.reduceMul, Nat.reduceSub, Nat.reduceBEq, ↓reduceIte, bne_self_eq_false, Bool.and_false, Bool.false_and, Bool.true_or, Bool.false_or, hb, p1, hL, i1, g1])
          | refine k_of (by assumption) ?_
          | refine tr_block ?_
          | refine tr_scope ?_
          | (refine tr_skip ?_; try simp only [ex_seq, ex_block])
          | (refine tr_label ?_; try simp only [ex_seq, ex_block])
          | (refine tr_exit ?_; try simp only [ex_seq_exit, ex_block_exit, Nat.reduceEqDiff, if_true, if_false, ex_seq, ex_block, reduceCtorEq, ↓reduceIte])
          | (refine tr_ret ?_; try simp only [ex_seq_ret, ex_block_ret]))
      refine (hQ _ _ [iA L[k]] ?_ rfl rfl).2 <;> simp only [go_sem, List.getElem?_toArray, str_beq, reduceCtorEq, Nat.reduceEqDiff, Nat.reduceLT, Nat.reduceLeDiff, Nat.reduceAdd, Nat.reduceMul, Nat.reduceSub, Nat.reduceBEq, ↓reduceIte, bne_self_eq_false, Bool.and_false, Bool.false_and, Bool.true_or, Bool.false_or, Try.f25]

theorem rfind_gives {m : Mm} {b : Nat} {E : List Ent} {S : List Nat} (h : RefM m b E S) (hW : Wf m) (hM : E.length ≤ 1000) (s : ByteArray) : GivesW Try.prog 23 [.ptr b 0, sA s] m (.tup [iA ((findS E s).getD 0 : Nat), bA (findS E s).isSome]) m := by
  have hlt := h.lt
  obtain ⟨c1, c2, s1, s2, hb, hT, hU, hS, hnd⟩ := h
  have p1 := hT.plain1
  refine givesW_of' Try.func23 rfl (by kernel_rfl) Try.ntmps23 rfl rfl fun Q hQ => ?_
  repeat (first
      | refine tr_seq_k fun _ _ => ?_
      | (refine tr_region ?_; simp only [go_sem, List.getElem?_toArray, str_beq, reduceCtorEq, Nat.reduceEqDiff, Nat.reduceLT, Nat.reduceLeDiff, Nat.reduceAdd, Nat.reduceMul, Nat.reduceSub, Nat.reduceBEq, ↓reduceIte, bne_self_eq_false, Bool.and_false, Bool.false_and, Bool.true_or, Bool.false_or])
      | refine k_of (by assumption) ?_
      | refine tr_block ?_
      | refine tr_scope ?_
      | (refine tr_skip ?_; try simp only [ex_seq, ex_block])
      | (refine tr_label ?_; try simp only [ex_seq, ex_block])
      | (refine tr_exit ?_; try simp only [ex_seq_exit, ex_block_exit, Nat.reduceEqDiff, if_true, if_false, ex_seq, ex_block, reduceCtorEq, ↓reduceIte])
      | (refine tr_ret ?_; try simp only [ex_seq_ret, ex_block_ret]))
  refine tr_loop_k (σ := Nat) (fun k => [(0, .ptr b 0), (1, sA s), (6, iA k)]) (fun _ => m) (fun k => k ≤ E.length ∧ ∀ j (hj : j < k) (hE : j < E.length), s = emp ∨ (E[j]).1 ≠ s) (fun k => E.length - k) 0 ⟨Nat.zero_le _, fun j hj => absurd hj (Nat.not_lt_zero _)⟩ ⟨rfl, rfl, rfl, trivial⟩ rfl ?_
  rintro k ⟨hk, hI⟩ K hK
  by_cases hkl : k < E.length
  · obtain ⟨h, L, rfl, _, hL, hEL, hkL, hg⟩ := row_getG hT (k := k) (by rw [txE_len]; exact hkl)
    have h1 : decide ((k : Int) < (((txE E).length : Nat) : Int)) = true := decide_eq_true (by rw [txE_len]; omega)
    have i1 := st_idx (b := h) (n := (txE E).length) (i := k) (by rw [txE_len]; exact hkl)
    have g1 := st_get hkL
    have ws := wrap_succ (show k ≤ 1000000000 by omega)
    have hge : (E[k]).1 = L[k] := by rw [hg, txE_get]
    repeat (first
        | refine tr_seq_k fun _ _ => ?_
        | (refine tr_region ?_; simp only [go_sem, List.getElem?_toArray, str_beq, reduceCtorEq, Nat.reduceEqDiff, Nat.reduceLT, Nat.reduceLeDiff, Nat.reduceAdd, Nat.reduceMul, Nat.reduceSub, Nat.reduceBEq, ↓reduceIte, bne_self_eq_false, Bool.and_false, Bool.false_and, Bool.true_or, Bool.false_or, hb, h1])
        | refine k_of (by assumption) ?_
        | refine tr_block ?_
        | refine tr_scope ?_
        | (refine tr_skip ?_; try simp only [ex_seq, ex_block])
        | (refine tr_label ?_; try simp only [ex_seq, ex_block])
        | (refine tr_exit ?_; try simp only [ex_seq_exit, ex_block_exit, Nat.reduceEqDiff, if_true, if_false, ex_seq, ex_block, reduceCtorEq, ↓reduceIte])
        | (refine tr_ret ?_; try simp only [ex_seq_ret, ex_block_ret]))
    refine tr_cond rfl (fun ht => ?_) (fun hf => ?_)
    · cases h2 : decide (s = ⟨#[]⟩) with
      | true =>
        have h2' : s = emp := of_decide_eq_true h2
        repeat (first
            | refine tr_seq_k fun _ _ => ?_
            | (refine tr_region ?_; simp only [go_sem, List.getElem?_toArray, str_beq, reduceCtorEq, Nat.reduceEqDiff, Nat.reduceLT, Nat.reduceLeDiff, Nat.reduceAdd, Nat.reduceMul, Nat.reduceSub, Nat.reduceBEq, ↓reduceIte, bne_self_eq_false, Bool.and_false, Bool.false_and, Bool.true_or, Bool.false_or, hb, h1, h2])
            | refine k_of (by assumption) ?_
            | refine tr_block ?_
            | refine tr_scope ?_
            | (refine tr_skip ?_; try simp only [ex_seq, ex_block])
            | (refine tr_label ?_; try simp only [ex_seq, ex_block])
            | (refine tr_exit ?_; try simp only [ex_seq_exit, ex_block_exit, Nat.reduceEqDiff, if_true, if_false, ex_seq, ex_block, reduceCtorEq, ↓reduceIte])
            | (refine tr_ret ?_; try simp only [ex_seq_ret, ex_block_ret]))
        refine tr_cond rfl (fun ht => ?_) (fun hf => ?_)
        · cases ht
        · repeat (first
              | refine tr_seq_k fun _ _ => ?_
              | (refine tr_region ?_; simp only [go_sem, List.getElem?_toArray, str_beq, reduceCtorEq, Nat.reduceEqDiff, Nat.reduceLT, Nat.reduceLeDiff, Nat.reduceAdd, Nat.reduceMul, Nat.reduceSub, Nat.reduceBEq, ↓reduceIte, bne_self_eq_false, Bool.and_false, Bool.false_and, Bool.true_or, Bool.false_or, ws])
              | refine k_of (by assumption) ?_
              | refine tr_block ?_
              | refine tr_scope ?_
              | (refine tr_skip ?_; try simp only [ex_seq, ex_block])
              | (refine tr_label ?_; try simp only [ex_seq, ex_block])
              | (refine tr_exit ?_; try simp only [ex_seq_exit, ex_block_exit, Nat.reduceEqDiff, if_true, if_false, ex_seq, ex_block, reduceCtorEq, ↓reduceIte])
              | (refine tr_ret ?_; try simp only [ex_seq_ret, ex_block_ret]))
          exact hK (k + 1) _ _ ⟨hkl, fun j hj hE => Or.inl h2'⟩ ⟨⟨rfl, rfl, rfl, trivial⟩, Keep.refl _, by simp only [lowF, low, Bool.and_true, Bool.true_and, Nat.blt_eq]; exact hlt, hW, Nat.le_refl _, Nat.le_refl _⟩ (by omega)
      | false =>
        have h2' : s ≠ emp := of_decide_eq_false h2
        cases h3 : decide (L[k] = s) with
        | true =>
          have h3' := of_decide_eq_true h3
          have hr : findS E s = some k := findS_of h2' hkl (by rw [hge]; exact h3') (fun j hj => (hI j hj (by omega)).resolve_left h2')
          repeat (first
              | refine tr_seq_k fun _ _ => ?_
              | (refine tr_region ?_; simp only [go_sem, List.getElem?_toArray, str_beq, reduceCtorEq, Nat.reduceEqDiff, Nat.reduceLT, Nat.reduceLeDiff, Nat.reduceAdd, Nat.reduceMul, Nat.reduceSub, Nat.reduceBEq, ↓reduceIte, bne_self_eq_false, Bool.and_false, Bool.false_and, Bool.true_or, Bool.false_or, hb, h1, h2, hL, i1, g1, h3])
              | refine k_of (by assumption) ?_
              | refine tr_block ?_
              | refine tr_scope ?_
              | (refine tr_skip ?_; try simp only [ex_seq, ex_block])
              | (refine tr_label ?_; try simp only [ex_seq, ex_block])
              | (refine tr_exit ?_; try simp only [ex_seq_exit, ex_block_exit, Nat.reduceEqDiff, if_true, if_false, ex_seq, ex_block, reduceCtorEq, ↓reduceIte])
              | (refine tr_ret ?_; try simp only [ex_seq_ret, ex_block_ret]))
          refine tr_cond rfl (fun ht => ?_) (fun hf => ?_)
          · repeat (first
                | refine tr_seq_k fun _ _ => ?_
                | (refine tr_region ?_; simp only [go_sem, List.getElem?_toArray, str_beq, reduceCtorEq, Nat.reduceEqDiff, Nat.reduceLT, Nat.reduceLeDiff, Nat.reduceAdd, Nat.reduceMul, Nat.reduceSub, Nat.reduceBEq, ↓reduceIte, bne_self_eq_false, Bool.and_false, Bool.false_and, Bool.true_or, Bool.false_or])
                | refine k_of (by assumption) ?_
                | refine tr_block ?_
                | refine tr_scope ?_
                | (refine tr_skip ?_; try simp only [ex_seq, ex_block])
                | (refine tr_label ?_; try simp only [ex_seq, ex_block])
                | (refine tr_exit ?_; try simp only [ex_seq_exit, ex_block_exit, Nat.reduceEqDiff, if_true, if_false, ex_seq, ex_block, reduceCtorEq, ↓reduceIte])
                | (refine tr_ret ?_; try simp only [ex_seq_ret, ex_block_ret]))
            refine (hQ _ _ [iA k, bA true] ?_ (by rw [hr]; rfl) rfl).2 <;> simp only [go_sem, List.getElem?_toArray, str_beq, reduceCtorEq, Nat.reduceEqDiff, Nat.reduceLT, Nat.reduceLeDiff, Nat.reduceAdd, Nat.reduceMul, Nat.reduceSub, Nat.reduceBEq, ↓reduceIte, bne_self_eq_false, Bool.and_false, Bool.false_and, Bool.true_or, Bool.false_or, Try.f23]
          · cases hf
        | false =>
          have h3' := of_decide_eq_false h3
          repeat (first
              | refine tr_seq_k fun _ _ => ?_
              | (refine tr_region ?_; simp only [go_sem, List.getElem?_toArray, str_beq, reduceCtorEq, Nat.reduceEqDiff, Nat.reduceLT, Nat.reduceLeDiff, Nat.reduceAdd, Nat.reduceMul, Nat.reduceSub, Nat.reduceBEq, ↓reduceIte, bne_self_eq_false, Bool.and_false, Bool.false_and, Bool.true_or, Bool.false_or, hb, h1, h2, hL, i1, g1, h3])
              | refine k_of (by assumption) ?_
              | refine tr_block ?_
              | refine tr_scope ?_
              | (refine tr_skip ?_; try simp only [ex_seq, ex_block])
              | (refine tr_label ?_; try simp only [ex_seq, ex_block])
              | (refine tr_exit ?_; try simp only [ex_seq_exit, ex_block_exit, Nat.reduceEqDiff, if_true, if_false, ex_seq, ex_block, reduceCtorEq, ↓reduceIte])
              | (refine tr_ret ?_; try simp only [ex_seq_ret, ex_block_ret]))
          refine tr_cond rfl (fun ht => ?_) (fun hf => ?_)
          · cases ht
          · repeat (first
                | refine tr_seq_k fun _ _ => ?_
                | (refine tr_region ?_; simp only [go_sem, List.getElem?_toArray, str_beq, reduceCtorEq, Nat.reduceEqDiff, Nat.reduceLT, Nat.reduceLeDiff, Nat.reduceAdd, Nat.reduceMul, Nat.reduceSub, Nat.reduceBEq, ↓reduceIte, bne_self_eq_false, Bool.and_false, Bool.false_and, Bool.true_or, Bool.false_or, ws])
                | refine k_of (by assumption) ?_
                | refine tr_block ?_
                | refine tr_scope ?_
                | (refine tr_skip ?_; try simp only [ex_seq, ex_block])
                | (refine tr_label ?_; try simp only [ex_seq, ex_block])
                | (refine tr_exit ?_; try simp only [ex_seq_exit, ex_block_exit, Nat.reduceEqDiff, if_true, if_false, ex_seq, ex_block, reduceCtorEq, ↓reduceIte])
                | (refine tr_ret ?_; try simp only [ex_seq_ret, ex_block_ret]))
            exact hK (k + 1) _ _ ⟨hkl, fun j hj hE => by
              rcases Nat.lt_succ_iff_lt_or_eq.1 hj with h | rfl
              · exact hI j h hE
              · exact Or.inr (by rw [hge]; exact h3')⟩ ⟨⟨rfl, rfl, rfl, trivial⟩, Keep.refl _, by simp only [lowF, low, Bool.and_true, Bool.true_and, Nat.blt_eq]; exact hlt, hW, Nat.le_refl _, Nat.le_refl _⟩ (by omega)
    · cases hf
  · have h1 : decide ((k : Int) < (((txE E).length : Nat) : Int)) = false := decide_eq_false (by rw [txE_len]; omega)
    have hr : findS E s = none := by
      by_cases h2 : s = emp
      · unfold findS; rw [if_pos h2]
      · exact findS_no fun j hj => (hI j (by omega) hj).resolve_left h2
    rcases slV_row hT with ⟨cs, hv, hv2⟩ | ⟨b', hv, hv2⟩
    · repeat (first
          | refine tr_seq_k fun _ _ => ?_
          | (refine tr_region ?_; simp only [go_sem, List.getElem?_toArray, str_beq, reduceCtorEq, Nat.reduceEqDiff, Nat.reduceLT, Nat.reduceLeDiff, Nat.reduceAdd, Nat.reduceMul, Nat.reduceSub, Nat.reduceBEq, ↓reduceIte, bne_self_eq_false, Bool.and_false, Bool.false_and, Bool.true_or, Bool.false_or, hb, h1, p1, hv, hv2])
          | refine k_of (by assumption) ?_
          | refine tr_block ?_
          | refine tr_scope ?_
          | (refine tr_skip ?_; try simp only [ex_seq, ex_block])
          | (refine tr_label ?_; try simp only [ex_seq, ex_block])
          | (refine tr_exit ?_; try simp only [ex_seq_exit, ex_block_exit, Nat.reduceEqDiff, if_true, if_false, ex_seq, ex_block, reduceCtorEq, ↓reduceIte])
          | (refine tr_ret ?_; try simp only [ex_seq_ret, ex_block_ret]))
      refine tr_cond rfl (fun ht => ?_) (fun hf => ?_)
      · cases ht
      · repeat (first
            | refine tr_seq_k fun _ _ => ?_
            | (refine tr_region ?_; simp only [go_sem, List.getElem?_toArray, str_beq, reduceCtorEq, Nat.reduceEqDiff, Nat.reduceLT, Nat.reduceLeDiff, Nat.reduceAdd, Nat.reduceMul, Nat.reduceSub, Nat.reduceBEq, ↓reduceIte, bne_self_eq_false, Bool.and_false, Bool.false_and, Bool.true_or, Bool.false_or])
            | refine k_of (by assumption) ?_
            | refine tr_block ?_
            | refine tr_scope ?_
            | (refine tr_skip ?_; try simp only [ex_seq, ex_block])
            | (refine tr_label ?_; try simp only [ex_seq, ex_block])
            | (refine tr_exit ?_; try simp only [ex_seq_exit, ex_block_exit, Nat.reduceEqDiff, if_true, if_false, ex_seq, ex_block, reduceCtorEq, ↓reduceIte])
            | (refine tr_ret ?_; try simp only [ex_seq_ret, ex_block_ret]))
        refine (hQ _ _ [iA 0, bA false] ?_ (by rw [hr]; rfl) rfl).2 <;> simp only [go_sem, List.getElem?_toArray, str_beq, reduceCtorEq, Nat.reduceEqDiff, Nat.reduceLT, Nat.reduceLeDiff, Nat.reduceAdd, Nat.reduceMul, Nat.reduceSub, Nat.reduceBEq, ↓reduceIte, bne_self_eq_false, Bool.and_false, Bool.false_and, Bool.true_or, Bool.false_or, Try.f23]
    · repeat (first
          | refine tr_seq_k fun _ _ => ?_
          | (refine tr_region ?_; simp only [go_sem, List.getElem?_toArray, str_beq, reduceCtorEq, Nat.reduceEqDiff, Nat.reduceLT, Nat.reduceLeDiff, Nat.reduceAdd, Nat.reduceMul, Nat.reduceSub, Nat.reduceBEq, ↓reduceIte, bne_self_eq_false, Bool.and_false, Bool.false_and, Bool.true_or, Bool.false_or, hb, h1, p1, hv, hv2])
          | refine k_of (by assumption) ?_
          | refine tr_block ?_
          | refine tr_scope ?_
          | (refine tr_skip ?_; try simp only [ex_seq, ex_block])
          | (refine tr_label ?_; try simp only [ex_seq, ex_block])
          | (refine tr_exit ?_; try simp only [ex_seq_exit, ex_block_exit, Nat.reduceEqDiff, if_true, if_false, ex_seq, ex_block, reduceCtorEq, ↓reduceIte])
          | (refine tr_ret ?_; try simp only [ex_seq_ret, ex_block_ret]))
      refine tr_cond rfl (fun ht => ?_) (fun hf => ?_)
      · cases ht
      · repeat (first
            | refine tr_seq_k fun _ _ => ?_
            | (refine tr_region ?_; simp only [go_sem, List.getElem?_toArray, str_beq, reduceCtorEq, Nat.reduceEqDiff, Nat.reduceLT, Nat.reduceLeDiff, Nat.reduceAdd, Nat.reduceMul, Nat.reduceSub, Nat.reduceBEq, ↓reduceIte, bne_self_eq_false, Bool.and_false, Bool.false_and, Bool.true_or, Bool.false_or])
            | refine k_of (by assumption) ?_
            | refine tr_block ?_
            | refine tr_scope ?_
            | (refine tr_skip ?_; try simp only [ex_seq, ex_block])
            | (refine tr_label ?_; try simp only [ex_seq, ex_block])
            | (refine tr_exit ?_; try simp only [ex_seq_exit, ex_block_exit, Nat.reduceEqDiff, if_true, if_false, ex_seq, ex_block, reduceCtorEq, ↓reduceIte])
            | (refine tr_ret ?_; try simp only [ex_seq_ret, ex_block_ret]))
        refine (hQ _ _ [iA 0, bA false] ?_ (by rw [hr]; rfl) rfl).2 <;> simp only [go_sem, List.getElem?_toArray, str_beq, reduceCtorEq, Nat.reduceEqDiff, Nat.reduceLT, Nat.reduceLeDiff, Nat.reduceAdd, Nat.reduceMul, Nat.reduceSub, Nat.reduceBEq, ↓reduceIte, bne_self_eq_false, Bool.and_false, Bool.false_and, Bool.true_or, Bool.false_or, Try.f23]

theorem liveN_take {E : List Ent} {k : Nat} (hk : k < E.length) : liveN (E.take (k + 1)) = liveN (E.take k) + if liveB E[k] then 1 else 0 := by
  rw [← List.take_append_getElem hk]
  unfold liveN
  rw [List.filter_append, List.length_append]
  cases h : liveB E[k] <;> simp [List.filter_cons, h]
theorem rlen_gives {m : Mm} {b : Nat} {E : List Ent} {S : List Nat} (h : RefM m b E S) (hW : Wf m) (hM : E.length ≤ 1000) : GivesW Try.prog 26 [.ptr b 0] m (iA (liveN E : Nat)) m := by
  have hlt := h.lt
  obtain ⟨c1, c2, s1, s2, hb, hT, hU, hS, hnd⟩ := h
  have p1 := hT.plain1
  have z0 : ((0 : Nat) : Int) = 0 := rfl
  refine givesW_of' Try.func26 rfl (by kernel_rfl) Try.ntmps26 rfl rfl fun Q hQ => ?_
  repeat (first
      | refine tr_seq_k fun _ _ => ?_
      | (refine tr_region ?_; simp only [go_sem, List.getElem?_toArray, str_beq, reduceCtorEq, Nat.reduceEqDiff, Nat.reduceLT, Nat.reduceLeDiff, Nat.reduceAdd, Nat.reduceMul, Nat.reduceSub, Nat.reduceBEq, ↓reduceIte, bne_self_eq_false, Bool.and_false, Bool.false_and, Bool.true_or, Bool.false_or])
      | refine k_of (by assumption) ?_
      | refine tr_block ?_
      | refine tr_scope ?_
      | (refine tr_skip ?_; try simp only [ex_seq, ex_block])
      | (refine tr_label ?_; try simp only [ex_seq, ex_block])
      | (refine tr_exit ?_; try simp only [ex_seq_exit, ex_block_exit, Nat.reduceEqDiff, if_true, if_false, ex_seq, ex_block, reduceCtorEq, ↓reduceIte])
      | (refine tr_ret ?_; try simp only [ex_seq_ret, ex_block_ret]))
  refine tr_loop_k (σ := Nat) (fun k => [(0, .ptr b 0), (3, iA (liveN (E.take k) : Nat)), (4, iA k)]) (fun _ => m) (fun k => k ≤ E.length) (fun k => E.length - k) 0 (Nat.zero_le _) ⟨rfl, rfl, rfl, trivial⟩ rfl ?_
  rintro k hk K hK
  by_cases hkl : k < E.length
  · obtain ⟨h, L, rfl, _, hL, hEL, hkL, hg⟩ := row_getG hT (k := k) (by rw [txE_len]; exact hkl)
    have h1 : decide ((k : Int) < (((txE E).length : Nat) : Int)) = true := decide_eq_true (by rw [txE_len]; omega)
    have i1 := st_idx (b := h) (n := (txE E).length) (i := k) (by rw [txE_len]; exact hkl)
    have g1 := st_get hkL
    have ws := wrap_succ (show k ≤ 1000000000 by omega)
    have hge : (E[k]).1 = L[k] := by rw [hg, txE_get]
    have hlk := liveN_take hkl
    have hle : liveN (E.take k) ≤ 1000 := Nat.le_trans (liveN_le _) (by rw [List.length_take]; omega)
    have wl := wrap_succ (show liveN (E.take k) ≤ 1000000000 by omega)
    repeat (first
        | refine tr_seq_k fun _ _ => ?_
        | (refine tr_region ?_; simp only [go_sem, List.getElem?_toArray, str_beq, reduceCtorEq, Nat.reduceEqDiff, Nat.reduceLT, Nat.reduceLeDiff, Nat.reduceAdd, Nat.reduceMul, Nat.reduceSub, Nat.reduceBEq, ↓reduceIte, bne_self_eq_false, Bool.and_false, Bool.false_and, Bool.true_or, Bool.false_or, hb, h1])
        | refine k_of (by assumption) ?_
        | refine tr_block ?_
        | refine tr_scope ?_
        | (refine tr_skip ?_; try simp only [ex_seq, ex_block])
        | (refine tr_label ?_; try simp only [ex_seq, ex_block])
        | (refine tr_exit ?_; try simp only [ex_seq_exit, ex_block_exit, Nat.reduceEqDiff, if_true, if_false, ex_seq, ex_block, reduceCtorEq, ↓reduceIte])
        | (refine tr_ret ?_; try simp only [ex_seq_ret, ex_block_ret]))
    refine tr_cond rfl (fun ht => ?_) (fun hf => ?_)
    · cases h2 : decide (L[k] = ⟨#[]⟩) with
      | true =>
        have h2' : (E[k]).1 = emp := by rw [hge]; exact of_decide_eq_true h2
        rw [show liveB E[k] = false by simp [liveB, h2'], if_neg Bool.false_ne_true, Nat.add_zero] at hlk
        repeat (first
            | refine tr_seq_k fun _ _ => ?_
            | (refine tr_region ?_; simp only [go_sem, List.getElem?_toArray, str_beq, reduceCtorEq, Nat.reduceEqDiff, Nat.reduceLT, Nat.reduceLeDiff, Nat.reduceAdd, Nat.reduceMul, Nat.reduceSub, Nat.reduceBEq, ↓reduceIte, bne_self_eq_false, Bool.and_false, Bool.false_and, Bool.true_or, Bool.false_or, hb, h1, hL, i1, g1, h2])
            | refine k_of (by assumption) ?_
            | refine tr_block ?_
            | refine tr_scope ?_
            | (refine tr_skip ?_; try simp only [ex_seq, ex_block])
            | (refine tr_label ?_; try simp only [ex_seq, ex_block])
            | (refine tr_exit ?_; try simp only [ex_seq_exit, ex_block_exit, Nat.reduceEqDiff, if_true, if_false, ex_seq, ex_block, reduceCtorEq, ↓reduceIte])
            | (refine tr_ret ?_; try simp only [ex_seq_ret, ex_block_ret]))
        refine tr_cond rfl (fun ht => ?_) (fun hf => ?_)
        · cases ht
        · repeat (first
              | refine tr_seq_k fun _ _ => ?_
              | (refine tr_region ?_; simp only [go_sem, List.getElem?_toArray, str_beq, reduceCtorEq, Nat.reduceEqDiff, Nat.reduceLT, Nat.reduceLeDiff, Nat.reduceAdd, Nat.reduceMul, Nat.reduceSub, Nat.reduceBEq, ↓reduceIte, bne_self_eq_false, Bool.and_false, Bool.false_and, Bool.true_or, Bool.false_or, ws])
              | refine k_of (by assumption) ?_
              | refine tr_block ?_
              | refine tr_scope ?_
              | (refine tr_skip ?_; try simp only [ex_seq, ex_block])
              | (refine tr_label ?_; try simp only [ex_seq, ex_block])
              | (refine tr_exit ?_; try simp only [ex_seq_exit, ex_block_exit, Nat.reduceEqDiff, if_true, if_false, ex_seq, ex_block, reduceCtorEq, ↓reduceIte])
              | (refine tr_ret ?_; try simp only [ex_seq_ret, ex_block_ret]))
          exact hK (k + 1) _ _ hkl ⟨⟨rfl, by rw [hlk]; rfl, rfl, trivial⟩, Keep.refl _, by simp only [lowF, low, Bool.and_true, Bool.true_and, Nat.blt_eq]; exact hlt, hW, Nat.le_refl _, Nat.le_refl _⟩ (by omega)
      | false =>
        have h2' : (E[k]).1 ≠ emp := by rw [hge]; exact of_decide_eq_false h2
        rw [show liveB E[k] = true by simp [liveB, h2'], if_pos rfl] at hlk
        repeat (first
            | refine tr_seq_k fun _ _ => ?_
            | (refine tr_region ?_; simp only [go_sem, List.getElem?_toArray, str_beq, reduceCtorEq, Nat.reduceEqDiff, Nat.reduceLT, Nat.reduceLeDiff, Nat.reduceAdd, Nat.reduceMul, Nat.reduceSub, Nat.reduceBEq, ↓reduceIte, bne_self_eq_false, Bool.and_false, Bool.false_and, Bool.true_or, Bool.false_or, hb, h1, hL, i1, g1, h2])
            | refine k_of (by assumption) ?_
            | refine tr_block ?_
            | refine tr_scope ?_
            | (refine tr_skip ?_; try simp only [ex_seq, ex_block])
            | (refine tr_label ?_; try simp only [ex_seq, ex_block])
            | (refine tr_exit ?_; try simp only [ex_seq_exit, ex_block_exit, Nat.reduceEqDiff, if_true, if_false, ex_seq, ex_block, reduceCtorEq, ↓reduceIte])
            | (refine tr_ret ?_; try simp only [ex_seq_ret, ex_block_ret]))
        refine tr_cond rfl (fun ht => ?_) (fun hf => ?_)
        · repeat (first
              | refine tr_seq_k fun _ _ => ?_
              | (refine tr_region ?_; simp only [go_sem, List.getElem?_toArray, str_beq, reduceCtorEq, Nat.reduceEqDiff, Nat.reduceLT, Nat.reduceLeDiff, Nat.reduceAdd, Nat.reduceMul, Nat.reduceSub, Nat.reduceBEq, ↓reduceIte, bne_self_eq_false, Bool.and_false, Bool.false_and, Bool.true_or, Bool.false_or, ws, wl])
              | refine k_of (by assumption) ?_
              | refine tr_block ?_
              | refine tr_scope ?_
              | (refine tr_skip ?_; try simp only [ex_seq, ex_block])
              | (refine tr_label ?_; try simp only [ex_seq, ex_block])
              | (refine tr_exit ?_; try simp only [ex_seq_exit, ex_block_exit, Nat.reduceEqDiff, if_true, if_false, ex_seq, ex_block, reduceCtorEq, ↓reduceIte])
              | (refine tr_ret ?_; try simp only [ex_seq_ret, ex_block_ret]))
          exact hK (k + 1) _ _ hkl ⟨⟨rfl, by rw [hlk]; rfl, rfl, trivial⟩, Keep.refl _, by simp only [lowF, low, Bool.and_true, Bool.true_and, Nat.blt_eq]; exact hlt, hW, Nat.le_refl _, Nat.le_refl _⟩ (by omega)
        · cases hf
    · cases hf
  · have h1 : decide ((k : Int) < (((txE E).length : Nat) : Int)) = false := decide_eq_false (by rw [txE_len]; omega)
    have hr : liveN (E.take k) = liveN E := by rw [List.take_of_length_le (by omega)]
    rcases slV_row hT with ⟨cs, hv, hv2⟩ | ⟨b', hv, hv2⟩
    · repeat (first
          | refine tr_seq_k fun _ _ => ?_
          | (refine tr_region ?_; simp only [go_sem, List.getElem?_toArray, str_beq, reduceCtorEq, Nat.reduceEqDiff, Nat.reduceLT, Nat.reduceLeDiff, Nat.reduceAdd, Nat.reduceMul, Nat.reduceSub, Nat.reduceBEq, ↓reduceIte, bne_self_eq_false, Bool.and_false, Bool.false_and, Bool.true_or, Bool.false_or, hb, h1, p1, hv, hv2])
          | refine k_of (by assumption) ?_
          | refine tr_block ?_
          | refine tr_scope ?_
          | (refine tr_skip ?_; try simp only [ex_seq, ex_block])
          | (refine tr_label ?_; try simp only [ex_seq, ex_block])
          | (refine tr_exit ?_; try simp only [ex_seq_exit, ex_block_exit, Nat.reduceEqDiff, if_true, if_false, ex_seq, ex_block, reduceCtorEq, ↓reduceIte])
          | (refine tr_ret ?_; try simp only [ex_seq_ret, ex_block_ret]))
      refine tr_cond rfl (fun ht => ?_) (fun hf => ?_)
      · cases ht
      · repeat (first
            | refine tr_seq_k fun _ _ => ?_
            | (refine tr_region ?_; simp only [go_sem, List.getElem?_toArray, str_beq, reduceCtorEq, Nat.reduceEqDiff, Nat.reduceLT, Nat.reduceLeDiff, Nat.reduceAdd, Nat.reduceMul, Nat.reduceSub, Nat.reduceBEq, ↓reduceIte, bne_self_eq_false, Bool.and_false, Bool.false_and, Bool.true_or, Bool.false_or])
            | refine k_of (by assumption) ?_
            | refine tr_block ?_
            | refine tr_scope ?_
            | (refine tr_skip ?_; try simp only [ex_seq, ex_block])
            | (refine tr_label ?_; try simp only [ex_seq, ex_block])
            | (refine tr_exit ?_; try simp only [ex_seq_exit, ex_block_exit, Nat.reduceEqDiff, if_true, if_false, ex_seq, ex_block, reduceCtorEq, ↓reduceIte])
            | (refine tr_ret ?_; try simp only [ex_seq_ret, ex_block_ret]))
        refine (hQ _ _ [iA (liveN (E.take k) : Nat)] ?_ (by rw [hr]; rfl) rfl).2 <;> simp only [go_sem, List.getElem?_toArray, str_beq, reduceCtorEq, Nat.reduceEqDiff, Nat.reduceLT, Nat.reduceLeDiff, Nat.reduceAdd, Nat.reduceMul, Nat.reduceSub, Nat.reduceBEq, ↓reduceIte, bne_self_eq_false, Bool.and_false, Bool.false_and, Bool.true_or, Bool.false_or, Try.f26]
    · repeat (first
          | refine tr_seq_k fun _ _ => ?_
          | (refine tr_region ?_; simp only [go_sem, List.getElem?_toArray, str_beq, reduceCtorEq, Nat.reduceEqDiff, Nat.reduceLT, Nat.reduceLeDiff, Nat.reduceAdd, Nat.reduceMul, Nat.reduceSub, Nat.reduceBEq, ↓reduceIte, bne_self_eq_false, Bool.and_false, Bool.false_and, Bool.true_or, Bool.false_or, hb, h1, p1, hv, hv2])
          | refine k_of (by assumption) ?_
          | refine tr_block ?_
          | refine tr_scope ?_
          | (refine tr_skip ?_; try simp only [ex_seq, ex_block])
          | (refine tr_label ?_; try simp only [ex_seq, ex_block])
          | (refine tr_exit ?_; try simp only [ex_seq_exit, ex_block_exit, Nat.reduceEqDiff, if_true, if_false, ex_seq, ex_block, reduceCtorEq, ↓reduceIte])
          | (refine tr_ret ?_; try simp only [ex_seq_ret, ex_block_ret]))
      refine tr_cond rfl (fun ht => ?_) (fun hf => ?_)
      · cases ht
      · repeat (first
            | refine tr_seq_k fun _ _ => ?_
            | (refine tr_region ?_; simp only [go_sem, List.getElem?_toArray, str_beq, reduceCtorEq, Nat.reduceEqDiff, Nat.reduceLT, Nat.reduceLeDiff, Nat.reduceAdd, Nat.reduceMul, Nat.reduceSub, Nat.reduceBEq, ↓reduceIte, bne_self_eq_false, Bool.and_false, Bool.false_and, Bool.true_or, Bool.false_or])
            | refine k_of (by assumption) ?_
            | refine tr_block ?_
            | refine tr_scope ?_
            | (refine tr_skip ?_; try simp only [ex_seq, ex_block])
            | (refine tr_label ?_; try simp only [ex_seq, ex_block])
            | (refine tr_exit ?_; try simp only [ex_seq_exit, ex_block_exit, Nat.reduceEqDiff, if_true, if_false, ex_seq, ex_block, reduceCtorEq, ↓reduceIte])
            | (refine tr_ret ?_; try simp only [ex_seq_ret, ex_block_ret]))
        refine (hQ _ _ [iA (liveN (E.take k) : Nat)] ?_ (by rw [hr]; rfl) rfl).2 <;> simp only [go_sem, List.getElem?_toArray, str_beq, reduceCtorEq, Nat.reduceEqDiff, Nat.reduceLT, Nat.reduceLeDiff, Nat.reduceAdd, Nat.reduceMul, Nat.reduceSub, Nat.reduceBEq, ↓reduceIte, bne_self_eq_false, Bool.and_false, Bool.false_and, Bool.true_or, Bool.false_or, Try.f26]
end Go.Proofs.Ytlhlcfijpdknfaa

/-
  Chapter 2: entries, as a contract.
-/
set_option linter.unusedSimpArgs false
set_option linter.unusedVariables false
namespace Go.Proofs.Ytlhlcfijpdknfaa
open Go.RowKit Go.Maps Go.Sort Go.Shelf Go.Vs Go.Vs.Ab Go.Vs.Hp Go.Vs.Tb
set_option maxRecDepth 100000
set_option maxHeartbeats 4000000

theorem exV_flat_rep (C : Nat → Nat → Option Value) : ∀ l : List (Nat × ByteArray), RepCs C (l.flatMap exC) (l.flatMap exV)
  | [] => ⟨rfl, fun i c x h => by simp at h⟩
  | p :: r => by
    have ih := exV_flat_rep C r
    refine ⟨?_, fun i c x h1 h2 => ?_⟩
    · have := ih.1
      simp only [List.flatMap_cons, List.length_append, this]
      rfl
    · rw [List.flatMap_cons] at h1 h2
      match i with
      | 0 => simp [exC] at h1; simp [exV] at h2; subst h1 h2; exact .v rfl
      | 1 => simp [exC] at h1; simp [exV] at h2; subst h1 h2; exact .v rfl
      | i + 2 => exact ih.2 i c x (by simpa [exC] using h1) (by simpa [exV] using h2)
theorem exV_len (l : List (Nat × ByteArray)) : (l.flatMap exV).length = l.length * 2 := by
  induction l with
  | nil => rfl
  | cons p r ih => rw [List.flatMap_cons, List.length_append, ih, List.length_cons]; simp [exV]; omega

/-- A table in memory, as its iterator reads it. -/
theorem tw_of {m : Mm} {b : Nat} {E : List Ent} {S : List Nat} (h : TabM m b E S) (hE : E.length ≤ 1000) (hts : ∀ e ∈ E, e.1.size ≤ maxLen) {X : Mem} {W0 w : World} (M : MR X W0 m w) {β : Nat} (hβ : X.loc b = some β) :
    ∃ bm a cap N, ∀ w', Below w.heap.size w w' → ∀ Bt, Bt < w'.heap.size → w'.cell? ⟨Bt, 0, none⟩ = some (.pointer (some ⟨β, 0, none⟩)) → TW w' Bt β bm a cap E N := by
  obtain ⟨c1, c2, mb, F, N, s1, s2, hb, hF, hEr, hN, hI, hS, hnd⟩ := h
  obtain ⟨β', k1, k2, k3, kB⟩ := M.locs b _ hb
  rw [hβ] at k1
  injection k1 with k1
  subst k1
  obtain ⟨bm, j1, j2, j3, jB⟩ := M.locs mb _ hN
  have p1 := hF.plain1
  obtain ⟨t, arr, q1, q2, q3, q4, q5⟩ := kB.plain (by simpa [plainB] using p1)
  obtain ⟨x2, g1, g2⟩ := reps_take_get q3 (i := 1) (c := c2) rfl
  obtain ⟨x3, g3, g4⟩ := reps_take_get q3 (i := 2) (c := .mapp mb) rfl
  cases g4 with
  | mapp g4 =>
  rw [j1] at g4
  injection g4 with g4
  subst g4
  have hlenN : N.length = (lives E).length := by rw [← hI.perm.length_eq, List.length_map]
  have hliv : (lives E).length ≤ E.length := by
    unfold lives
    exact Nat.le_trans (List.length_filter_le _ _) (by rw [List.length_range]; exact Nat.le_refl _)
  have hown : w.ownsMap Try.prog 9 (plainElem Try.prog 3) bm N.length (DN N) := by
    cases jB with
    | dead h => simp at h
    | cells h1 h2 h3 h4 h5 =>
      obtain ⟨x, _, hx⟩ := reps_take_get h3 (i := 0) (c := .ent (nmI N)) rfl
      cases hx
    | ent h1 h2 h3 h4 h5 =>
      simp only [List.cons.injEq, AV.ent.injEq, and_true] at h1
      subst h1
      refine own_nm h2 h3 hI.nnd (fun p hp => ?_) (fun p hp => ?_) (by unfold maxLen; omega)
      · obtain ⟨u, hu, _⟩ := (hI.nmem p.1 p.2).1 hp
        exact hts (p.1, u) (List.mem_of_getElem? hu)
      · obtain ⟨u, hu, _⟩ := (hI.nmem p.1 p.2).1 hp
        have := (List.getElem?_eq_some_iff.1 hu).1
        omega
  have hen : ∃ a cap, x2 = .slice a E.length cap ∧ ∀ (i : Nat) (hi : i < E.length), ∃ be oe, a = some ⟨be, oe, none⟩ ∧ be < w.heap.size ∧ w.cell? ⟨be, oe + i * 2, none⟩ = some (.string E[i].1) := by
    rcases hEr with ⟨rfl, rfl, _⟩ | ⟨hh, L, rfl, _, hL, hEL⟩
    · cases g2 with
      | c g2 =>
        cases g2 with
        | sl => exact ⟨_, _, rfl, fun i hi => absurd hi (by simp)⟩
    · cases g2 with
      | lsl hl ho hn hc hr =>
        refine ⟨_, _, rfl, fun i hi => ?_⟩
        have ho := ho (by omega)
        obtain ⟨γ, l1, l2, l3, lB⟩ := M.locs hh _ hL
        rw [hl] at l1
        injection l1 with l1
        subst l1
        refine ⟨_, _, rfl, l3, ?_⟩
        obtain ⟨t2, arr2, e1, e2, e3, e4, e5⟩ := lB.plain plainB_blC
        have hkL : i < L.length := by
          have := congrArg List.length hEL
          rw [List.length_take] at this
          omega
        obtain ⟨x, f1, f2⟩ := reps_take_get e3 (i := i * 2) (c := sA L[i].1) (en_get0 hkL)
        rw [take_get hEL hi hkL]
        subst ho
        cases f2 with
        | c f2 =>
          cases f2 with
          | v f2 =>
            refine cell_of_heap e1 ?_
            simpa using f1
  obtain ⟨a, cap, rfl, hen⟩ := hen
  refine ⟨bm, a, cap, N, fun w' hb' Bt hBt hbox => ⟨hbox, hBt, Nat.lt_of_lt_of_le k3 hb'.size, (hb'.cell (p := ⟨β, 1, none⟩) k3).trans (cell_of_heap q1 g1), (hb'.cell (p := ⟨β, 2, none⟩) k3).trans (cell_of_heap q1 g3), fun i hi => ?_, ?_, hI.nnd, hI.perm, by omega, fun i hi => ?_⟩⟩
  · obtain ⟨be, oe, h1, h2, h3⟩ := hen i hi
    exact ⟨be, oe, h1, Nat.lt_of_lt_of_le h2 hb'.size, (hb'.cell (p := ⟨be, oe + i * 2, none⟩) h2).trans h3⟩
  · obtain ⟨es, clock, h1, Ft, hs, hD⟩ := hown
    exact ⟨es, clock, (hb'.block bm j3).trans h1, Ft, hs, hD⟩
  · obtain ⟨e, he, _⟩ := mem_lives.1 hi
    exact (List.getElem?_eq_some_iff.1 he).1

/-- **entries**: what a table holds, in order. -/
theorem entries_gives {m : Mm} {b : Nat} {E : List Ent} {S : List Nat} (h : TabM m b E S) (hE : E.length ≤ 1000) (hts : ∀ e ∈ E, e.1.size ≤ maxLen) {most : Nat} (hm : (lives E).length ≤ most) (hm2 : most ≤ 1000000) :
    GivesW Try.prog 24 [.ptr b 0, iA (most : Nat)] m (.tup [.c (.sl (decide (exL E = [])) (exL E).length ((exL E).flatMap exC)), bA true]) m := by
  refine ⟨enters_of Try.func24 (by kernel_rfl) rfl, fun X W0 w vs M hr => ?_⟩
  obtain ⟨hl, hv⟩ := hr
  match hvs : vs.toList, hl with
  | [x1, x2], hl2 =>
  rw [hvs] at hv
  have r1 := hv 0 _ x1 rfl rfl
  have r2 := hv 1 _ x2 rfl rfl
  cases r1 with
  | ptr hβ =>
  rename_i β
  cases r2 with
  | c r2 =>
  cases r2 with
  | v r2 =>
  have hvs2 : vs = #[.pointer (some ⟨β, 0, none⟩), .int .i64 (most : Nat)] := Array.ext' hvs
  rw [hvs2]
  obtain ⟨bm, a, cap, N, hT⟩ := tw_of h hE hts M hβ
  refine (callsIn_wide.1 (entries_in 20 (by decide) β bm a cap E N w most hm hm2 hT)).mono ?_
  rintro e w' ⟨v, rfl, hrow, hnil, hbel⟩
  have M1 := M.grow hbel
  rcases hrow.2 with ⟨rfl, hk⟩ | ⟨g, cp, cur, rfl, hgb, hgg, s1, s2, s3, s4⟩
  · have he := hnil.1 rfl
    rw [he]
    refine ⟨_, X, rfl, Mem.Le.refl _ _, .tup rfl fun i c x h1 h2 => ?_, M1⟩
    match i with
    | 0 => simp at h1 h2; subst h1 h2; exact .c (.sl (xs := []) rfl (fun i c x h => by cases h) (Nat.le_refl _) ⟨by decide, fun _ => rfl⟩ (fun _ => rfl) (fun j x h => by cases h))
    | 1 => simp at h1 h2; subst h1 h2; exact .c (.v rfl)
    | i + 2 => simp at h1
  · have hne : decide (exL E = []) = false := decide_eq_false fun e => by have := hnil.2 e; cases this
    rw [hne]
    have hgW : W0.heap.size ≤ g := Nat.le_trans M.below.size hgb
    have hC : ∀ o, X.cell g o = none := fun o => by
      cases hx : X.cell g o with
      | none => rfl
      | some x =>
        have := M.cell g o x hx
        have hlt : g < w.heap.size := by
          unfold World.cell? at this
          cases hw : w.heap[g]? with
          | none => simp [hw] at this
          | some ob => exact (Array.getElem?_eq_some_iff.1 hw).1
        omega
    have M2 := M1.claim (xs := (exL E).flatMap exV) hgW hC (fun i e => by have := (M.locBlock e).1; omega) (fun k T e => by have := (M.tokBlock e).1; omega) (fun o x hx => by
      refine cell_of_heap hgg ?_
      rw [← s4, List.getElem?_take] at hx
      split at hx
      · simpa using hx
      · cases hx)
    refine ⟨_, _, rfl, Mem.le_claim hC hgW, .tup rfl fun i c x h1 h2 => ?_, M2⟩
    match i with
    | 0 =>
      simp at h1 h2
      subst h1 h2
      refine .c (.sl (exV_flat_rep (fun _ _ => none) _).1 (exV_flat_rep _ _).2 s1 ⟨s2, fun e => by cases e⟩ (fun e => by cases e) (fun j x hx => ⟨_, _, rfl, ?_⟩))
      simp only [Mem.claim, Nat.zero_add, if_true]
      exact hx
    | 1 => simp at h1 h2; subst h1 h2; exact .c (.v rfl)
    | i + 2 => simp at h1
end Go.Proofs.Ytlhlcfijpdknfaa

/-
  Chapter 2, InternNames: calls on a table that stays as it is, and on none, seen in the world itself.
-/
set_option linter.unusedSimpArgs false
set_option linter.unusedVariables false
set_option linter.unusedSectionVars false
namespace Go.Proofs.Ytlhlcfijpdknfaa
open Go.RowKit Go.Maps Go.Sort Go.Shelf Go.Vs Go.Vs.Ab Go.Vs.Hp Go.Vs.Tb
set_option maxRecDepth 100000
set_option maxHeartbeats 4000000

/-- A table of one text, taken once: where it lies. -/
structure TN (w : World) (β bm be oe cap : Nat) : Prop where
  sl : w.cell? ⟨β, 1, none⟩ = some (.slice (some ⟨be, oe, none⟩) 1 cap)
  us : w.cell? ⟨be, oe + 1, none⟩ = some (.int .i64 1)
  mp : w.cell? ⟨β, 2, none⟩ = some (.map (some bm))
  own : ∃ D : DataW Unit, w.ownsMap Try.prog 9 (plainElem Try.prog 3) bm 1 D ∧ Maps.size D = 1
  βl : β < w.heap.size
  bl : be < w.heap.size
theorem TN.below {w w' : World} {β bm be oe cap : Nat} (h : TN w β bm be oe cap) (hb : Below w.heap.size w w') : TN w' β bm be oe cap := by
  obtain ⟨D, ho, hz⟩ := h.own
  have hbl := ho.lt
  refine ⟨(hb.cell (p := ⟨β, 1, none⟩) h.βl).trans h.sl, (hb.cell (p := ⟨be, oe + 1, none⟩) h.bl).trans h.us, (hb.cell (p := ⟨β, 2, none⟩) h.βl).trans h.mp, ⟨D, ?_, hz⟩, Nat.lt_of_lt_of_le h.βl hb.size, Nat.lt_of_lt_of_le h.bl hb.size⟩
  obtain ⟨es, clock, hb', Ft, hs, hD⟩ := ho
  exact ⟨es, clock, (hb.block bm hbl).trans hb', Ft, hs, hD⟩
theorem tn_of {m : Mm} {b : Nat} {s : ByteArray} {S : List Nat} (h : TabM m b [(s, 1)] S) (hs : s ≠ emp) (hsz : s.size ≤ maxLen) {X : Mem} {W0 w : World} (M : MR X W0 m w) {β : Nat} (hβ : X.loc b = some β) :
    ∃ bm be oe cap, TN w β bm be oe cap := by
  have hTW := tw_of h (by simp) (fun e he => by rw [List.mem_singleton] at he; subst he; exact hsz) M hβ
  obtain ⟨bm, a, cap, N, hT⟩ := hTW
  obtain ⟨c1, c2, mb, F, N', s1, s2, hb, hF, hEr, hN, hI, hS, hnd⟩ := h
  obtain ⟨β', k1, k2, k3, kB⟩ := M.locs b _ hb
  rw [hβ] at k1
  injection k1 with k1
  subst k1
  have p1 := hF.plain1
  obtain ⟨t, arr, q1, q2, q3, q4, q5⟩ := kB.plain (by simpa [plainB] using p1)
  obtain ⟨x2, g1, g2⟩ := reps_take_get q3 (i := 1) (c := c2) rfl
  have hw := hT (w.alloc (.cells #[.pointer (some ⟨β, 0, none⟩)] 24)) ((Below.refl _ w).alloc (Nat.le_refl _) _) w.heap.size (by rw [World.size_alloc]; omega) (cell_of_heap (World.alloc_heap_new w _) rfl)
  have hbel : Below w.heap.size w (w.alloc (.cells #[.pointer (some ⟨β, 0, none⟩)] 24)) := (Below.refl _ w).alloc (Nat.le_refl _) _
  have hsl := (hbel.cell (p := ⟨β, 1, none⟩) k3).symm.trans hw.sl
  have hmp := (hbel.cell (p := ⟨β, 2, none⟩) k3).symm.trans hw.mp
  have hc := cell_of_heap q1 g1
  rw [hsl] at hc
  injection hc with hc
  subst hc
  have hN1 : N.length = 1 := by
    have h1 := hw.perm.length_eq
    rw [List.length_map] at h1
    rw [h1]
    have : liveB (s, 1) = true := by simp [liveB, hs]
    rw [← liveN_eq]
    simp [liveN, this]
  have hown : ∃ D : DataW Unit, w.ownsMap Try.prog 9 (plainElem Try.prog 3) bm 1 D ∧ Maps.size D = 1 := by
    obtain ⟨es, clock, hb', Ft, hs', hD⟩ := hw.own
    obtain ⟨bmβ, j1, j2, j3, jB⟩ := M.locs mb _ hN
    obtain ⟨x3, g3, g4⟩ := reps_take_get q3 (i := 2) (c := .mapp mb) rfl
    have hc3 := cell_of_heap q1 g3
    rw [hmp] at hc3
    injection hc3 with hc3
    subst hc3
    cases g4 with
    | mapp g4 =>
    rw [j1] at g4
    injection g4 with g4
    subst g4
    rw [hN1] at hs'
    refine ⟨_, ⟨es, clock, (hbel.block bmβ j3).symm.trans hb', Ft, hs', hD⟩, ?_⟩
    match N, hN1 with
    | [p], _ => rfl
  rcases hEr with ⟨he, _⟩ | ⟨hh, L, rfl, _, hL, hEL⟩
  · cases he
  · cases g2 with
    | lsl hl ho hn hc hr =>
      have ho := ho (by have : 1 ≤ cap := hn; omega)
      subst ho
      obtain ⟨γ, l1, l2, l3, lB⟩ := M.locs hh _ hL
      rw [hl] at l1
      injection l1 with l1
      subst l1
      obtain ⟨t2, arr2, e1, e2, e3, e4, e5⟩ := lB.plain plainB_blC
      have hkL : 0 < L.length := by
        have := congrArg List.length hEL
        rw [List.length_take] at this
        simp at this
        omega
      obtain ⟨x, f1, f2⟩ := reps_take_get e3 (i := 0 * 2 + 1) (c := iA L[0].2) (en_get1 hkL)
      have h0 : L[0].2 = 1 := by
        rw [← take_get hEL (by simp) hkL]
        rfl
      rw [h0] at f2
      cases f2 with
      | c f2 =>
        cases f2 with
        | v f2 =>
          exact ⟨bm, _, _, _, hsl, cell_of_heap e1 (by simpa using f1), hmp, hown, k3, l3⟩

section
variable (n : Nat) (h1 : 1 ≤ n) (W : World)
include h1
theorem hasN_in (k : Int) : CallsIn Fence.wide n Try.prog 31 #[.pointer none, .int .i64 k] W fun e w' => e = .returned (.bool false) ∧ w' = W := by
  have hro : Fence.wide.round = none := rfl
  refine callsIn_of_wp Try.func31 rfl trivial ?_ hro
  simp only [Try.ntmps31, List.size_toArray, List.length_cons, List.length_nil, Nat.reduceAdd, Nat.reduceSub, Array.replicate_succ, Array.replicate_zero, List.push_toArray, List.append_toArray, List.nil_append, List.cons_append]
  gi_wp2
  go_ret
  exact ⟨rfl, rfl⟩
theorem hasB_in (β : Nat) (k : Int) (hk : k < 0) : CallsIn Fence.wide n Try.prog 31 #[.pointer (some ⟨β, 0, none⟩), .int .i64 k] W fun e w' => e = .returned (.bool false) ∧ w' = W := by
  have hro : Fence.wide.round = none := rfl
  have hk' : (k ≥ 0) = False := eq_false (by omega)
  refine callsIn_of_wp Try.func31 rfl trivial ?_ hro
  simp only [Try.ntmps31, List.size_toArray, List.length_cons, List.length_nil, Nat.reduceAdd, Nat.reduceSub, Array.replicate_succ, Array.replicate_zero, List.push_toArray, List.append_toArray, List.nil_append, List.cons_append]
  gi_wp2
  go_ret
  exact ⟨rfl, rfl⟩
theorem has9_in {β bm be oe cap : Nat} (hT : TN W β bm be oe cap) : CallsIn Fence.wide n Try.prog 31 #[.pointer (some ⟨β, 0, none⟩), .int .i64 9] W fun e w' => e = .returned (.bool false) ∧ w' = W := by
  have hro : Fence.wide.round = none := rfl
  have hsl := hT.sl
  refine callsIn_of_wp Try.func31 rfl trivial ?_ hro
  simp only [Try.ntmps31, List.size_toArray, List.length_cons, List.length_nil, Nat.reduceAdd, Nat.reduceSub, Array.replicate_succ, Array.replicate_zero, List.push_toArray, List.append_toArray, List.nil_append, List.cons_append]
  gi_wp2
  go_ret
  exact ⟨rfl, rfl⟩
theorem has0_in {β bm be oe cap : Nat} (hT : TN W β bm be oe cap) : CallsIn Fence.wide n Try.prog 31 #[.pointer (some ⟨β, 0, none⟩), .int .i64 0] W fun e w' => e = .returned (.bool true) ∧ w' = W := by
  have hro : Fence.wide.round = none := rfl
  have hsl := hT.sl
  have hus := hT.us
  refine callsIn_of_wp Try.func31 rfl trivial ?_ hro
  simp only [Try.ntmps31, List.size_toArray, List.length_cons, List.length_nil, Nat.reduceAdd, Nat.reduceSub, Array.replicate_succ, Array.replicate_zero, List.push_toArray, List.append_toArray, List.nil_append, List.cons_append]
  gi_wp2
  go_ret
  exact ⟨rfl, rfl⟩
end
end Go.Proofs.Ytlhlcfijpdknfaa

/-
  Chapter 2, InternNames: more calls on a table that stays as it is, and on none, seen in the world itself.
-/
set_option linter.unusedSimpArgs false
set_option linter.unusedVariables false
set_option linter.unusedSectionVars false
namespace Go.Proofs.Ytlhlcfijpdknfaa
open Go.RowKit Go.Maps Go.Sort Go.Shelf Go.Vs Go.Vs.Ab Go.Vs.Hp Go.Vs.Tb
set_option maxRecDepth 100000
set_option maxHeartbeats 4000000

section
variable (n : Nat) (h1 : 2 ≤ n) (W : World)
include h1
theorem takeN_in (s : ByteArray) : CallsIn Fence.wide n Try.prog 10 #[.pointer none, .string s] W fun e w' => e = .returned (.tuple #[.int .i64 0, .int .i64 1]) ∧ w' = W := by
  have hro : Fence.wide.round = none := rfl
  have h0 : 1 ≤ n := by omega
  have h01 : 1 ≤ n - 1 := by omega
  have hf : ∀ f, Fence.wide.fn f := fun _ => trivial
  refine callsIn_of_wp Try.func10 rfl trivial ?_ hro
  simp only [Try.ntmps10, List.size_toArray, List.length_cons, List.length_nil, Nat.reduceAdd, Nat.reduceSub, Array.replicate_succ, Array.replicate_zero, List.push_toArray, List.append_toArray, List.nil_append, List.cons_append]
  gi_wp2
  go_ret2
  exact ⟨rfl, rfl⟩
theorem textN_in (k : Int) : CallsIn Fence.wide n Try.prog 14 #[.pointer none, .int .i64 k] W fun e w' => e = .returned (.tuple #[.string ⟨#[]⟩, .int .i64 1]) ∧ w' = W := by
  have hro : Fence.wide.round = none := rfl
  have h0 : 1 ≤ n := by omega
  have h01 : 1 ≤ n - 1 := by omega
  have hf : ∀ f, Fence.wide.fn f := fun _ => trivial
  refine callsIn_of_wp Try.func14 rfl trivial ?_ hro
  simp only [Try.ntmps14, List.size_toArray, List.length_cons, List.length_nil, Nat.reduceAdd, Nat.reduceSub, Array.replicate_succ, Array.replicate_zero, List.push_toArray, List.append_toArray, List.nil_append, List.cons_append]
  gi_wp2
  go_ret2
  exact ⟨rfl, rfl⟩
theorem findN_in (s : ByteArray) : CallsIn Fence.wide n Try.prog 15 #[.pointer none, .string s] W fun e w' => e = .returned (.tuple #[.int .i64 0, .bool false]) ∧ w' = W := by
  have hro : Fence.wide.round = none := rfl
  have h0 : 1 ≤ n := by omega
  have h01 : 1 ≤ n - 1 := by omega
  have hf : ∀ f, Fence.wide.fn f := fun _ => trivial
  refine callsIn_of_wp Try.func15 rfl trivial ?_ hro
  simp only [Try.ntmps15, List.size_toArray, List.length_cons, List.length_nil, Nat.reduceAdd, Nat.reduceSub, Array.replicate_succ, Array.replicate_zero, List.push_toArray, List.append_toArray, List.nil_append, List.cons_append]
  gi_wp2
  go_ret2
  exact ⟨rfl, rfl⟩
theorem dropN_in (k : Int) : CallsIn Fence.wide n Try.prog 12 #[.pointer none, .int .i64 k] W fun e w' => e = .returned (.int .i64 1) ∧ w' = W := by
  have hro : Fence.wide.round = none := rfl
  have h0 : 1 ≤ n := by omega
  have h01 : 1 ≤ n - 1 := by omega
  have hf : ∀ f, Fence.wide.fn f := fun _ => trivial
  refine callsIn_of_wp Try.func12 rfl trivial ?_ hro
  simp only [Try.ntmps12, List.size_toArray, List.length_cons, List.length_nil, Nat.reduceAdd, Nat.reduceSub, Array.replicate_succ, Array.replicate_zero, List.push_toArray, List.append_toArray, List.nil_append, List.cons_append]
  gi_wp2
  go_ret
  exact ⟨rfl, rfl⟩
theorem usesN_in (k : Int) : CallsIn Fence.wide n Try.prog 17 #[.pointer none, .int .i64 k] W fun e w' => e = .returned (.int .i64 0) ∧ w' = W := by
  have hro : Fence.wide.round = none := rfl
  have h0 : 1 ≤ n := by omega
  have h01 : 1 ≤ n - 1 := by omega
  have hf : ∀ f, Fence.wide.fn f := fun _ => trivial
  refine callsIn_of_wp Try.func17 rfl trivial ?_ hro
  simp only [Try.ntmps17, List.size_toArray, List.length_cons, List.length_nil, Nat.reduceAdd, Nat.reduceSub, Array.replicate_succ, Array.replicate_zero, List.push_toArray, List.append_toArray, List.nil_append, List.cons_append]
  gi_wp2_with (gi_at_call 31; refine (hasN_in _ h01 _ k).mono ?_; rintro e w' ⟨rfl, rfl⟩)
  go_ret
  exact ⟨rfl, rfl⟩
theorem lenN_in : CallsIn Fence.wide n Try.prog 13 #[.pointer none] W fun e w' => e = .returned (.int .i64 0) ∧ w' = W := by
  have hro : Fence.wide.round = none := rfl
  have h0 : 1 ≤ n := by omega
  have h01 : 1 ≤ n - 1 := by omega
  have hf : ∀ f, Fence.wide.fn f := fun _ => trivial
  refine callsIn_of_wp Try.func13 rfl trivial ?_ hro
  simp only [Try.ntmps13, List.size_toArray, List.length_cons, List.length_nil, Nat.reduceAdd, Nat.reduceSub, Array.replicate_succ, Array.replicate_zero, List.push_toArray, List.append_toArray, List.nil_append, List.cons_append]
  gi_wp2
  go_ret
  exact ⟨rfl, rfl⟩
theorem dropB_in (β : Nat) : CallsIn Fence.wide n Try.prog 12 #[.pointer (some ⟨β, 0, none⟩), .int .i64 (-1)] W fun e w' => e = .returned (.int .i64 13) ∧ w' = W := by
  have hro : Fence.wide.round = none := rfl
  have h0 : 1 ≤ n := by omega
  have h01 : 1 ≤ n - 1 := by omega
  have hf : ∀ f, Fence.wide.fn f := fun _ => trivial
  refine callsIn_of_wp Try.func12 rfl trivial ?_ hro
  simp only [Try.ntmps12, List.size_toArray, List.length_cons, List.length_nil, Nat.reduceAdd, Nat.reduceSub, Array.replicate_succ, Array.replicate_zero, List.push_toArray, List.append_toArray, List.nil_append, List.cons_append]
  gi_wp2_with (gi_at_call 31; refine (hasB_in _ h01 _ β (-1) (by decide)).mono ?_; rintro e w' ⟨rfl, rfl⟩)
  go_ret
  exact ⟨rfl, rfl⟩
theorem uses9_in {β bm be oe cap : Nat} (hT : TN W β bm be oe cap) : CallsIn Fence.wide n Try.prog 17 #[.pointer (some ⟨β, 0, none⟩), .int .i64 9] W fun e w' => e = .returned (.int .i64 0) ∧ w' = W := by
  have hro : Fence.wide.round = none := rfl
  have h0 : 1 ≤ n := by omega
  have h01 : 1 ≤ n - 1 := by omega
  have hf : ∀ f, Fence.wide.fn f := fun _ => trivial
  refine callsIn_of_wp Try.func17 rfl trivial ?_ hro
  simp only [Try.ntmps17, List.size_toArray, List.length_cons, List.length_nil, Nat.reduceAdd, Nat.reduceSub, Array.replicate_succ, Array.replicate_zero, List.push_toArray, List.append_toArray, List.nil_append, List.cons_append]
  gi_wp2_with (gi_at_call 31; refine (has9_in _ h01 _ hT).mono ?_; rintro e w' ⟨rfl, rfl⟩)
  go_ret
  exact ⟨rfl, rfl⟩
theorem uses0_in {β bm be oe cap : Nat} (hT : TN W β bm be oe cap) : CallsIn Fence.wide n Try.prog 17 #[.pointer (some ⟨β, 0, none⟩), .int .i64 0] W fun e w' => e = .returned (.int .i64 1) ∧ w' = W := by
  have hro : Fence.wide.round = none := rfl
  have h0 : 1 ≤ n := by omega
  have h01 : 1 ≤ n - 1 := by omega
  have hf : ∀ f, Fence.wide.fn f := fun _ => trivial
  have hsl := hT.sl
  have hus := hT.us
  refine callsIn_of_wp Try.func17 rfl trivial ?_ hro
  simp only [Try.ntmps17, List.size_toArray, List.length_cons, List.length_nil, Nat.reduceAdd, Nat.reduceSub, Array.replicate_succ, Array.replicate_zero, List.push_toArray, List.append_toArray, List.nil_append, List.cons_append]
  gi_wp2_with (gi_at_call 31; refine (has0_in _ h01 _ hT).mono ?_; rintro e w' ⟨rfl, rfl⟩)
  go_ret
  exact ⟨rfl, rfl⟩
theorem lenT_in {β bm be oe cap : Nat} (hT : TN W β bm be oe cap) : CallsIn Fence.wide n Try.prog 13 #[.pointer (some ⟨β, 0, none⟩)] W fun e w' => e = .returned (.int .i64 1) ∧ w' = W := by
  have hro : Fence.wide.round = none := rfl
  have h0 : 1 ≤ n := by omega
  have h01 : 1 ≤ n - 1 := by omega
  have hf : ∀ f, Fence.wide.fn f := fun _ => trivial
  have hmp := hT.mp
  obtain ⟨D, hown, hz⟩ := hT.own
  have hlen := hown.len Try.underlying56 3
  rw [hz] at hlen
  refine callsIn_of_wp Try.func13 rfl trivial ?_ hro
  simp only [Try.ntmps13, List.size_toArray, List.length_cons, List.length_nil, Nat.reduceAdd, Nat.reduceSub, Array.replicate_succ, Array.replicate_zero, List.push_toArray, List.append_toArray, List.nil_append, List.cons_append]
  gi_wp2
  go_ret
  exact ⟨rfl, rfl⟩
theorem each_in (p : Option Addr) : CallsIn Fence.wide n Try.prog 16 #[.pointer p] W fun e w' => e = .returned (.func (.func 33) #[] #[.pointer (some ⟨W.heap.size, 0, none⟩)]) ∧ w' = W.alloc (.cells #[.pointer p] 24) := by
  have hro : Fence.wide.round = none := rfl
  refine callsIn_of_wp Try.func16 rfl trivial ?_ hro
  simp only [Try.ntmps16, List.size_toArray, List.length_cons, List.length_nil, Nat.reduceAdd, Nat.reduceSub, Array.replicate_succ, Array.replicate_zero, List.push_toArray, List.append_toArray, List.nil_append, List.cons_append]
  gi_wp2
  go_ret
  exact ⟨rfl, rfl⟩
theorem eachN_in (Bt l : Nat) (hb : W.cell? ⟨Bt, 0, none⟩ = some (.pointer none)) : CallsIn Fence.wide n Try.prog 33 #[.func (.yield l) #[] #[], .pointer (some ⟨Bt, 0, none⟩)] W fun e w' => (∃ v, e = .returned v) ∧ w' = W := by
  have hro : Fence.wide.round = none := rfl
  have h0 : 1 ≤ n := by omega
  refine callsIn_of_wp Try.func33 rfl trivial ?_ hro
  simp only [Try.ntmps33, List.size_toArray, List.length_cons, List.length_nil, Nat.reduceAdd, Nat.reduceSub, Array.replicate_succ, Array.replicate_zero, List.push_toArray, List.append_toArray, List.nil_append, List.cons_append]
  gi_wp2
  (try simp only [Exit.inBlock, Exit.then])
  refine bodyPost_ret (results_none rfl _ _ _) rfl ?_
  exact ⟨⟨_, rfl⟩, rfl⟩
end
theorem seq_nilN (f : Nat) (lb : Array Value) (w : World) : (binOp .neq 38 (.func (.func f) #[] lb) .nilFunc).run Try.prog w = .ok (.bool true) w := by
  have he : (Op.equal 38 (.func (.func f) #[] lb) .nilFunc).run Try.prog w = .ok false w := by
    show (Op.equalIn (9999 + 1) 38 _ _).run Try.prog w = _
    unfold Op.equalIn
    simp [run_under Try.underlying38]
  have e : binOp .neq 38 (.func (.func f) #[] lb) .nilFunc = (do pure (Value.bool (!(← Op.equal 38 (.func (.func f) #[] lb) .nilFunc)))) := rfl
  rw [e]
  simp [Sem.run_bind, he, Result.andThen]

/-- The world so far: behind w0, with a table at β that holds E. -/
def NSt (w0 : World) (β : Nat) (E : List Ent) (w : World) : Prop := ∃ X m b S, MR X w0 m w ∧ TabM m b E S ∧ Wf m ∧ X.loc b = some β
theorem NSt.below {w0 w : World} {β : Nat} {E : List Ent} (h : NSt w0 β E w) : Below w0.heap.size w0 w := by
  obtain ⟨X, m, b, S, M, _⟩ := h
  exact M.below
theorem NSt.grow {w0 w w' : World} {β : Nat} {E : List Ent} (h : NSt w0 β E w) (hb : Below w.heap.size w w') : NSt w0 β E w' := by
  obtain ⟨X, m, b, S, M, r⟩ := h
  exact ⟨X, m, b, S, M.grow hb, r⟩
theorem NSt.tn {w0 w : World} {β : Nat} {s : ByteArray} (h : NSt w0 β [(s, 1)] w) (hs : s ≠ emp) (hsz : s.size ≤ maxLen) : ∃ bm be oe cap, TN w β bm be oe cap := by
  obtain ⟨X, m, b, S, M, t, _, hb⟩ := h
  exact tn_of t hs hsz M hb
theorem rep_tup2 {X : Mem} {a b v : Value} (h : Rep X (.tup [.c (.v a), .c (.v b)]) v) : v = .tuple #[a, b] := by
  cases h with
  | @tup _ xs hl h =>
    have h0 := h 0 (.c (.v a)) (xs.toList[0]'(by rw [← hl]; simp)) rfl (by simp)
    have h1 := h 1 (.c (.v b)) (xs.toList[1]'(by rw [← hl]; simp)) rfl (by simp)
    have e0 : xs.toList[0]'(by rw [← hl]; simp) = a := by
      generalize xs.toList[0]'(by rw [← hl]; simp) = y at h0
      cases h0 with
      | c h0 => cases h0; rfl
    have e1 : xs.toList[1]'(by rw [← hl]; simp) = b := by
      generalize xs.toList[1]'(by rw [← hl]; simp) = y at h1
      cases h1 with
      | c h1 => cases h1; rfl
    have : xs = #[a, b] := by
      apply Array.ext'
      match hx : xs.toList, hl with
      | [p, q], _ => simp only [hx, List.getElem_cons_zero, List.getElem_cons_succ] at e0 e1; rw [e0, e1]
    rw [this]
theorem rep2 {X : Mem} {β b : Nat} {x : Value} (h : X.loc b = some β) (hx : RepC X.cell (.v x) x) : Reps X [.ptr b 0, .c (.v x)] (#[.pointer (some ⟨β, 0, none⟩), x] : Array Value).toList := by
  refine ⟨rfl, fun i c y h1 h2 => ?_⟩
  match i with
  | 0 => simp at h1 h2; subst h1 h2; exact .ptr h
  | 1 => simp at h1 h2; subst h1 h2; exact .c hx
  | i + 2 => simp at h1
section
variable {n : Nat} {w0 W : World} {β : Nat} {E : List Ent}
theorem takeS_in (h : NSt w0 β E W) (s : ByteArray) (hM : E.length ≤ 1000) (hU : ∀ e ∈ E, e.2 ≤ 100000) : CallsIn Fence.wide n Try.prog 10 #[.pointer (some ⟨β, 0, none⟩), .string s] W fun e w' => e = .returned (.tuple #[.int .i64 ((takeS E s).1.1 : Nat), .int .i64 (takeS E s).1.2]) ∧ NSt w0 β (takeS E s).2 w' := by
  obtain ⟨X, m, b, S, M, t, hW, hb⟩ := h
  obtain ⟨m', S', c, t', k⟩ := take_tab t hW s hM hU
  refine (callsIn_wide.2 (c.2 X w0 W _ M (rep2 hb (.v rfl)))).mono ?_
  rintro e w' ⟨v, X', rfl, hle, hr, M'⟩
  exact ⟨by rw [rep_tup2 hr], X', m', b, S', M', t', k.wf, hle.loc _ _ hb⟩
theorem textS_in (h : NSt w0 β E W) (k : Int) : CallsIn Fence.wide n Try.prog 14 #[.pointer (some ⟨β, 0, none⟩), .int .i64 k] W fun e w' => e = .returned (.tuple #[.string (textS E k), .int .i64 (if hasS E k then 0 else 13)]) ∧ NSt w0 β E w' := by
  obtain ⟨X, m, b, S, M, t, hW, hb⟩ := h
  refine (callsIn_wide.2 ((text_tab t k).2 X w0 W _ M (rep2 hb (.v rfl)))).mono ?_
  rintro e w' ⟨v, X', rfl, hle, hr, M'⟩
  exact ⟨by rw [rep_tup2 hr], X', m, b, S, M', t, hW, hle.loc _ _ hb⟩
theorem findS_in (h : NSt w0 β E W) (s : ByteArray) : CallsIn Fence.wide n Try.prog 15 #[.pointer (some ⟨β, 0, none⟩), .string s] W fun e w' => e = .returned (.tuple #[.int .i64 ((findS E s).getD 0 : Nat), .bool (findS E s).isSome]) ∧ NSt w0 β E w' := by
  obtain ⟨X, m, b, S, M, t, hW, hb⟩ := h
  refine (callsIn_wide.2 ((find_tab t s).2 X w0 W _ M (rep2 hb (.v rfl)))).mono ?_
  rintro e w' ⟨v, X', rfl, hle, hr, M'⟩
  exact ⟨by rw [rep_tup2 hr], X', m, b, S, M', t, hW, hle.loc _ _ hb⟩
theorem newS_in (w0 : World) : CallsIn Fence.wide n Try.prog 9 #[] w0 fun e w' => ∃ β, e = .returned (.pointer (some ⟨β, 0, none⟩)) ∧ NSt w0 β [] w' := by
  obtain ⟨m', b, S, c, t, k⟩ := new_gives wf0
  have M : MR (⟨fun _ _ => none, fun _ => none, fun _ => none, fun _ => 0⟩ : Mem) w0 ⟨[], []⟩ w0 :=
    ⟨Below.refl _ w0, (fun _ _ _ h => by cases h), (fun _ _ h => by cases h), (fun _ _ h => by simp at h), (fun _ _ _ _ _ h => by cases h), (fun _ _ h => by cases h), (fun _ _ h => by simp at h), (fun _ _ _ _ h => by cases h), (fun _ h => absurd h (Nat.lt_irrefl 0))⟩
  refine (callsIn_wide.2 (c.2 _ w0 w0 #[] M ⟨rfl, fun i c x h => by simp at h⟩)).mono ?_
  rintro e w' ⟨v, X', rfl, hle, hr, M'⟩
  cases hr with
  | ptr hb => exact ⟨_, rfl, X', m', b, S, M', t, k.wf, hb⟩
end
end Go.Proofs.Ytlhlcfijpdknfaa

/-
  Chapter 2: InternNames, the walk.
-/
set_option linter.unusedSimpArgs false
set_option linter.unusedVariables false
namespace Go.Proofs.Ytlhlcfijpdknfaa
open Go.RowKit Go.Maps Go.Sort Go.Shelf Go.Vs Go.Vs.Ab Go.Vs.Hp Go.Vs.Tb
set_option maxRecDepth 100000
set_option maxHeartbeats 4000000

theorem livesR_in (n : Nat) (w : World) : CallsIn Fence.wide n Try.prog 7 #[] w fun e w' => e = .returned (.bool true) ∧ Below w.heap.size w w' :=
  callsIn_wide.2 (lives_does.calls (C := fun _ _ => none) (fun _ _ _ h => by cases h) (vs := #[]) ⟨rfl, fun i c x h => by simp at h⟩ rfl)
theorem times_ex : ∃ s : ByteArray, 255 < s.size ∧ ∀ (n : Nat) (w : World), CallsIn Fence.wide n Try.prog 11 #[.string (ByteArray.mk #[97]), .int .i64 256] w fun e w' => e = .returned (.string s) ∧ Below w.heap.size w w' :=
  ⟨repS (ByteArray.mk #[97]) 256, by decide +kernel, fun n w => callsIn_wide.2 ((times_does (s := ByteArray.mk #[97]) (n := 256) (by decide) (by decide)).calls (C := fun _ _ => none) (fun _ _ _ h => by cases h) (vs := #[.string (ByteArray.mk #[97]), .int .i64 256]) ⟨rfl, fun i c x h1 h2 => by
    match i with
    | 0 => simp at h1 h2; subst h1 h2; exact .c (.v rfl)
    | 1 => simp at h1 h2; subst h1 h2; exact .c (.v rfl)
    | i + 2 => simp at h1⟩ rfl)⟩
def xx : ByteArray := ByteArray.mk #[120]
theorem take_e : takeS [] (ByteArray.mk #[]) = ((0, 2), []) := by decide +kernel
theorem take_a {s : ByteArray} (h : 255 < s.size) : takeS [] s = ((0, 2), []) := by
  have h : s.size < 1 ∨ 255 < s.size := Or.inr h
  unfold takeS
  rw [if_pos h]
theorem take_x : takeS [] xx = ((0, 0), [(xx, 1)]) := by decide +kernel
theorem text_0 : textS [(xx, 1)] 0 = xx ∧ hasS [(xx, 1)] 0 = true := by decide +kernel
theorem text_9 : textS [(xx, 1)] 9 = emp ∧ hasS [(xx, 1)] 9 = false := by decide +kernel
theorem find_x : findS [(xx, 1)] xx = some 0 := by decide +kernel
theorem find_e : findS [(xx, 1)] (ByteArray.mk #[]) = none := by decide +kernel

section
variable {n : Nat} {w0 W : World} {β : Nat}
theorem take1_in (h : NSt w0 β [] W) : CallsIn Fence.wide n Try.prog 10 #[.pointer (some ⟨β, 0, none⟩), .string (ByteArray.mk #[])] W fun e w' => e = .returned (.tuple #[.int .i64 0, .int .i64 2]) ∧ NSt w0 β [] w' := by
  have := takeS_in (n := n) h (ByteArray.mk #[]) (by decide) (by simp)
  rw [take_e] at this
  exact this
theorem take2_in (h : NSt w0 β [] W) {aas : ByteArray} (hz : 255 < aas.size) : CallsIn Fence.wide n Try.prog 10 #[.pointer (some ⟨β, 0, none⟩), .string aas] W fun e w' => e = .returned (.tuple #[.int .i64 0, .int .i64 2]) ∧ NSt w0 β [] w' := by
  have := takeS_in (n := n) h aas (by decide) (by simp)
  rw [take_a hz] at this
  exact this
theorem take3_in (h : NSt w0 β [] W) : CallsIn Fence.wide n Try.prog 10 #[.pointer (some ⟨β, 0, none⟩), .string (ByteArray.mk #[120])] W fun e w' => e = .returned (.tuple #[.int .i64 0, .int .i64 0]) ∧ NSt w0 β [(xx, 1)] w' := by
  have := takeS_in (n := n) h xx (by decide) (by simp)
  rw [take_x] at this
  exact this
theorem text1_in (h : NSt w0 β [(xx, 1)] W) : CallsIn Fence.wide n Try.prog 14 #[.pointer (some ⟨β, 0, none⟩), .int .i64 0] W fun e w' => e = .returned (.tuple #[.string (ByteArray.mk #[120]), .int .i64 0]) ∧ NSt w0 β [(xx, 1)] w' := by
  have := textS_in (n := n) h 0
  rw [text_0.1, text_0.2] at this
  exact this
theorem text2_in (h : NSt w0 β [(xx, 1)] W) : CallsIn Fence.wide n Try.prog 14 #[.pointer (some ⟨β, 0, none⟩), .int .i64 9] W fun e w' => e = .returned (.tuple #[.string (ByteArray.mk #[]), .int .i64 13]) ∧ NSt w0 β [(xx, 1)] w' := by
  have := textS_in (n := n) h 9
  rw [text_9.1, text_9.2] at this
  exact this
theorem find1_in (h : NSt w0 β [(xx, 1)] W) : CallsIn Fence.wide n Try.prog 15 #[.pointer (some ⟨β, 0, none⟩), .string (ByteArray.mk #[120])] W fun e w' => e = .returned (.tuple #[.int .i64 0, .bool true]) ∧ NSt w0 β [(xx, 1)] w' := by
  have := findS_in (n := n) h xx
  rw [find_x] at this
  exact this
theorem find2_in (h : NSt w0 β [(xx, 1)] W) : CallsIn Fence.wide n Try.prog 15 #[.pointer (some ⟨β, 0, none⟩), .string (ByteArray.mk #[])] W fun e w' => e = .returned (.tuple #[.int .i64 0, .bool false]) ∧ NSt w0 β [(xx, 1)] w' := by
  have := findS_in (n := n) h (ByteArray.mk #[])
  rw [find_e] at this
  exact this
end

theorem names_in (n : Nat) (hn : 10 ≤ n) (w : World) : CallsIn Fence.wide n Try.prog 4 #[] w fun e w' => e = .returned (.bool true) ∧ Below w.heap.size w w' := by
  have h1 : 1 ≤ n := by omega
  have h2 : 2 ≤ n - 1 := by omega
  have hro : Fence.wide.round = none := rfl
  have hf : ∀ f, Fence.wide.fn f := fun _ => trivial
  obtain ⟨aas, hz, cT⟩ := times_ex
  have HT := Lib.hid cT
  have HZ := Lib.hid hz
  clear cT hz
  have hEq := fun (lb : Array Value) (w : World) => seq_nilN 33 lb w
  refine callsIn_of_wp_marks Try.func4 rfl trivial ?_ hro
  simp only [Try.ntmps4, List.size_toArray, List.length_cons, List.length_nil, Nat.reduceAdd, Nat.reduceSub, Array.replicate_succ, Array.replicate_zero, List.push_toArray, List.append_toArray, List.nil_append, List.cons_append]
  gi_wp2_with (first
    | (gi_at_call 7; refine (livesR_in _ _).mono ?_; rintro e w1 ⟨rfl, hb1⟩; have HB1 := Lib.hid hb1; clear hb1)
    | (gi_at_call 9; refine (newS_in _).mono ?_; rintro e w2 ⟨β, rfl, hN2⟩; have HN2 := Lib.hid hN2; clear hN2)
    | (gi_at_call 10; refine (take1_in HN2.out).mono ?_; rintro e w3 ⟨rfl, hN3⟩; have HN3 := Lib.hid hN3; clear hN3 HN2)
    | (gi_at_call 11; refine (HT.out _ _).mono ?_; rintro e w4 ⟨rfl, hb4⟩; have HN4 := Lib.hid (HN3.out.grow hb4); clear hb4 HN3)
    | (gi_at_call 10; refine (take2_in HN4.out HZ.out).mono ?_; rintro e w5 ⟨rfl, hN5⟩; have HN5 := Lib.hid hN5; clear hN5 HN4)
    | (gi_at_call 10; refine (take3_in HN5.out).mono ?_; rintro e w6 ⟨rfl, hN6⟩; have HN6 := Lib.hid hN6; clear hN6 HN5)
    | (gi_at_call 14; refine (text1_in HN6.out).mono ?_; rintro e w7 ⟨rfl, hN7⟩; have HN7 := Lib.hid hN7; clear hN7 HN6)
    | (gi_at_call 14; refine (text2_in HN7.out).mono ?_; rintro e w8 ⟨rfl, hN8⟩; have HN8 := Lib.hid hN8; clear hN8 HN7)
    | (gi_at_call 15; refine (find1_in HN8.out).mono ?_; rintro e w9 ⟨rfl, hN9⟩; have HN9 := Lib.hid hN9; clear hN9 HN8)
    | (gi_at_call 15; refine (find2_in HN9.out).mono ?_; rintro e wA ⟨rfl, hNA⟩; have HNA := Lib.hid hNA; clear hNA HN9)
    | (gi_at_call 10; refine (takeN_in _ h2 _ _).mono ?_; rintro e w' ⟨rfl, rfl⟩)
    | (gi_at_call 14; refine (textN_in _ h2 _ _).mono ?_; rintro e w' ⟨rfl, rfl⟩)
    | (gi_at_call 15; refine (findN_in _ h2 _ _).mono ?_; rintro e w' ⟨rfl, rfl⟩)
    | (gi_at_call 16; refine (each_in _ h2 _ _).mono ?_; rintro e w' ⟨rfl, rfl⟩))
  obtain ⟨bm, be, oe, cap, hT0⟩ := HNA.out.tn (by decide) (by decide)
  obtain ⟨wb, hwb⟩ : ∃ wb, wb = w'.alloc (.cells #[.pointer none] 24) := ⟨_, rfl⟩
  have hbw : Below w'.heap.size w' wb := by rw [hwb]; exact below_alloc _ _
  have hT1 := hT0.below hbw
  have hbox : wb.cell? ⟨w'.heap.size, 0, none⟩ = some (.pointer none) := by rw [hwb]; exact cell_of_heap (World.alloc_heap_new w' _) rfl
  have hbl : w'.heap.size < wb.heap.size := by rw [hwb, World.size_alloc]; omega
  have hb1 : Below (w.heap.size + 1) (w.alloc (.cells #[.bool false] 4)) w1 := by have := HB1.out; rwa [World.size_alloc] at this
  have hb2 : Below w1.heap.size w1 w' := HNA.out.below
  have hs1 : w.heap.size + 1 ≤ w1.heap.size := by have := hb1.size; rwa [World.size_alloc] at this
  have hs2 : w1.heap.size ≤ w'.heap.size := hb2.size
  have r0 : wb.heap[w.heap.size]? = some (.cells #[.bool false] 4 (0, 0)) :=
    (hbw.block _ (by omega)).trans ((hb2.block _ (by omega)).trans ((hb1.block _ (by omega)).trans (World.alloc_heap_new w _)))
  have hB : Below w.heap.size w wb := (((Below.refl _ w).alloc (Nat.le_refl _) _).trans (hb1.mono (by omega))).trans ((hb2.mono (by omega)).trans (hbw.mono (by omega)))
  have HHB := Lib.hid hB
  clear HNA HB1 hT0 hbw hb1 hb2 hB
  rw [← hwb]
  clear hwb
  refine wpIn_rangeP h1 (gf := 33) (lb := #[.pointer (some ⟨w'.heap.size, 0, none⟩)]) rfl (enters_of Try.func33 (by kernel_rfl) rfl) (encs := fun _ => #[.int .i64 0, .string ⟨#[]⟩]) 0 (fun _ => rfl)
    (fun pg i W => Below wb.heap.size wb W) (fun pg i W l o o' h hl ho hc => h.grown (grownBy_putObj_a W l o') h.size (fun k e => by cases e; exact hl)) (fun W h => h) (fun W g o h _ _ _ => h)
    (fun l J W hW hJ hS hI hY => (eachN_in (n - 1) (by omega) W _ l ((hW.cell (p := ⟨w'.heap.size, 0, none⟩) hbl).trans hbox)).mono (fun e W' ⟨hv, hw⟩ => ⟨hv, none, hw ▸ hJ W (Below.refl _ _)⟩))
    (fun _ => _) (fun l i W K hK => by gi_wp2; exact hK) (fun l pg i W hi _ => absurd hi (Nat.not_lt_zero _)) ?_
  intro D pg W hD hW hK
  have hT := hT1.below hW
  have HDB := Lib.hid (dropB_in (n - 1) h2 W β)
  have Hw' := Lib.hid (uses0_in (n - 1) h2 W hT)
  have HU9 := Lib.hid (uses9_in (n - 1) h2 W hT)
  have HLT := Lib.hid (lenT_in (n - 1) h2 W hT)
  have HDN := Lib.hid (dropN_in (n - 1) h2 W 0)
  have HUN := Lib.hid (usesN_in (n - 1) h2 W 0)
  have HLN := Lib.hid (lenN_in (n - 1) h2 W)
  have r1 : W.heap[w.heap.size]? = some (.cells #[.bool false] 4 (0, 0)) := (hW.block _ (by omega)).trans r0
  obtain ⟨c1, z1⟩ := cell_of_box_a r1
  have hs3 := hW.size
  have HWB := Lib.hid hW
  have HK := Lib.hid hK
  have HR := Lib.hid r1
  clear hT hT1 hW hK r0 r1 hbox
  gi_wp2_with (first
    | (gi_at_call 12; refine HDB.out.mono ?_; rintro e w' ⟨rfl, rfl⟩; clear HDB)
    | (gi_at_call 17; refine Hw'.out.mono ?_; rintro e w' ⟨rfl, rfl⟩; clear Hw')
    | (gi_at_call 17; refine HU9.out.mono ?_; rintro e w' ⟨rfl, rfl⟩; clear HU9)
    | (gi_at_call 13; refine HLT.out.mono ?_; rintro e w' ⟨rfl, rfl⟩; clear HLT)
    | (gi_at_call 12; refine HDN.out.mono ?_; rintro e w' ⟨rfl, rfl⟩; clear HDN)
    | (gi_at_call 17; refine HUN.out.mono ?_; rintro e w' ⟨rfl, rfl⟩; clear HUN)
    | (gi_at_call 13; refine HLN.out.mono ?_; rintro e w' ⟨rfl, rfl⟩; clear HLN))
  have uR : (w'.setCell ⟨w.heap.size, 0, none⟩ (.bool true)).heap[w.heap.size]? = some (.cells #[.bool true] 4 (0, 0)) := heap_setCell_box_a (v := .bool false) _ HR.out
  have uK : (w'.setCell ⟨w.heap.size, 0, none⟩ (.bool true)).heap[D]? = some (.deferred (some [])) := (KeepsOthers.setCell _ _ _).same D _ HK.out rfl
  have uB : Below w.heap.size w (w'.setCell ⟨w.heap.size, 0, none⟩ (.bool true)) := (HHB.out.trans (HWB.out.mono HHB.out.size)).setCell (p := ⟨w.heap.size, 0, none⟩) (Nat.le_refl _) _
  generalize w'.setCell ⟨w.heap.size, 0, none⟩ (.bool true) = U at *
  have e4 : (U.putObj D (.deferred none)).cell? ⟨w.heap.size, 0, none⟩ = some (.bool true) := (cell_of_box_a ((World.putObj_heap_other (by omega)).trans uR)).1
  have eB : Below w.heap.size w (U.putObj D (.deferred none)) := uB.grown (grownBy_putObj_a U D (.deferred none)) uB.size (fun k e => by cases e; have := HHB.out.size; omega)
  refine ⟨by simp, .inl ⟨_, _, rfl, run_takeDeferred uK, ?_⟩⟩
  refine ⟨.bool true, ?_, rfl, eB⟩
  simp [results, Try.f4, go_sem, e4]

theorem names_does : Does Try.prog 4 [] (fun m => (bA true, m)) :=
  does_of_calls (v := .bool true) (callable_of Try.func4 (by kernel_rfl)) rfl fun X w vs hc hr => by
    have hvs : vs = #[] := Array.ext' (List.eq_nil_of_length_eq_zero hr.1.symm)
    rw [hvs]
    exact callsIn_wide.1 (names_in 20 (by decide) w)
end Go.Proofs.Ytlhlcfijpdknfaa

namespace Go.Proofs.Ytlhlcfijpdknfaa.names
open Go.ChangeShapes Go.WideShapes Go.ChangeAt Go.RowKit Go.Vs Go.Vs.Ab

theorem own : ownKnob Try.prog.godebug = none := by kernel_rfl
theorem laidOut : laidOutB Try.prog = true := by kernel_rfl
theorem readable : (Try.f4.params.toList.all fun t => Try.prog.readableRec t && decide (t < Try.prog.types.size)) = true := by kernel_rfl

set_option maxRecDepth 100000 in
theorem lifted (os : Os) (started : os.Started) (H : Type) (enc : TypeId × Value → H) :
    ReturnsInHanded {} Try.checked os 4 .any (Rows.internNamesSpec.pre6 enc Try.prog Try.f4 Rows.internNamesRow.domain false) (Rows.internNamesSpec.post enc Try.prog Try.f4 false true false false) := by
  refine returnsInHanded_of_change (C := Try.checked) own started (by kernel_rfl) Try.func4
    (ChangeSpec.witness6 (enc := enc) (C := Try.checked) false ⟨#[], #[], []⟩ 8 (by kernel_rfl) (by kernel_rfl) (by kernel_rfl) (by kernel_rfl)) ?_
  intro W base args ds gs before hval0 hW hcnd _
  have hval : ∀ (j : Nat) t v, Try.f4.params[j]? = some t → args[j]? = some v → Value.okWide Try.prog W .any base t v := hval0
  have hW' := hW
  obtain ⟨p, q, hA0, hV, rfl, hfz, hnd⟩ := hW
  have hA : DataW.TrodAll enc Try.prog W 0 (fun _ => true) true Try.f4.params.toList args.toList ds p := hA0
  rw [Try.params4] at hA
  obtain ⟨ha, rfl, rfl⟩ := trodAll_nil hA
  obtain rfl : args = #[] := by cases args; simp_all
  obtain ⟨rfl, rfl⟩ := trodVars_none hV
  refine ((names_does).bool Reps.nil).mono fun e W' ⟨he, hb⟩ => ?_
  subst he
  refine ⟨_, rfl, law_post (tb := 4) hW' rfl rfl laidOut (fun t ht => ?_) rfl Try.underlying4 hb⟩
  have := List.all_eq_true.1 readable t ht
  simp only [Bool.and_eq_true, decide_eq_true_eq] at this
  exact this

theorem holds : Rows.InternNamesSaid :=
  OpenClaim.holds_of_wide 4 Try.f4 rfl rfl rfl rfl rfl rfl rfl ⟨rfl, rfl, rfl, rfl, rfl⟩ rfl rfl rfl rfl rfl (by kernel_rfl) Try.func4 (by kernel_rfl)
    (of_decide_eq_true (by kernel_rfl)) (by unfold Func.isWrapper; first | (rw [if_pos (by decide +kernel)]; kernel_rfl) | (rw [if_neg (by decide +kernel)]; exact ⟨rfl, rfl⟩))
    (fun os started H enc _ => lifted os started H enc)
#print axioms holds
end Go.Proofs.Ytlhlcfijpdknfaa.names
