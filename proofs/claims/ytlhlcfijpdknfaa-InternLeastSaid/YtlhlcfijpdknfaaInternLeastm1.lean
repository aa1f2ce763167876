/-
  Part 1 of the proof's own texts: general lemmas and contracts of functions, laid one behind the other.
-/
import Derived.Test.YtlhlcfijpdknfaaInternLeastm0
/-
  Chapter 2: Drop.
-/
set_option linter.unusedSimpArgs false
set_option linter.unusedVariables false
namespace Go.Proofs.Ytlhlcfijpdknfaa
open Go.Vs Go.Vs.Ab Go.Vs.Hp Go.Vs.Tb
set_option maxRecDepth 100000
set_option maxHeartbeats 4000000

theorem nmI_erase (N : List (ByteArray × Nat)) (j : Nat) : (nmI N).eraseIdx j = nmI (N.eraseIdx j) := by
  unfold nmI encE
  rw [map_erase, map_erase]

theorem drop_tab {m : Mm} {b : Nat} {E : List Ent} {S : List Nat} (h : TabM m b E S) (hW : Wf m) (n : Int) (hM : E.length ≤ 1000) (hU : ∀ e ∈ E, e.2 ≤ 100000) :
    ∃ m' S', GivesW Try.prog 12 [.ptr b 0, iA n] m (iA (dropS E n).1) m' ∧ TabM m' b (dropS E n).2 S' ∧ Kp m m' S S' := by
  have hh := has_gives h n
  have htab := h
  obtain ⟨c1, c2, mb, F, N, s1, s2, hb, hF, hE, hN, hI, hS, hnd⟩ := h
  have p1 := hF.plain1
  unfold dropS
  cases h0 : hasS E n with
  | false =>
    rw [h0] at hh
    refine ⟨m, S, ?_, htab, Kp.refl hW S⟩
    refine givesW_of' Try.func12 rfl (by kernel_rfl) Try.ntmps12 rfl rfl fun Q hQ => ?_
    repeat (first
        | refine tr_seq_k fun _ _ => ?_
        | (refine tr_region ?_; simp only [go_sem, List.getElem?_toArray, str_beq, reduceCtorEq, Nat.reduceEqDiff, Nat.reduceLT, Nat.reduceLeDiff, Nat.reduceAdd, Nat.reduceMul, Nat.reduceSub, Nat.reduceBEq, ↓reduceIte, bne_self_eq_false, Bool.and_false, Bool.false_and, Bool.true_or, Bool.false_or])
        | (refine tr_draw (id := 7) follows 12 [12] [0, 1, 2, 3, 4, 5, 6, 7, 8, 9, 10, 11, 12] (by kernel_rfl) ?_; simp only [go_sem, List.getElem?_toArray, str_beq, reduceCtorEq, Nat.reduceEqDiff, Nat.reduceLT, Nat.reduceLeDiff, Nat.reduceAdd, Nat.reduceMul, Nat.reduceSub, Nat.reduceBEq, ↓reduceIte, bne_self_eq_false, Bool.and_false, Bool.false_and, Bool.true_or, Bool.false_or])
        | (refine call_givesW (hh) ?_; (try dsimp only); (try simp only [go_sem, List.getElem?_toArray, str_beq, reduceCtorEq, Nat.reduceEqDiff, Nat.reduceLT, Nat.reduceLeDiff, Nat.reduceAdd, Nat.reduceMul, Nat.reduceSub, Nat.reduceBEq, ↓reduceIte, bne_self_eq_false, Bool.and_false, Bool.false_and, Bool.true_or, Bool.false_or]))
        | refine k_of (by assumption) ?_
        | refine tr_block ?_
        | refine tr_scope ?_
        | (refine tr_skip ?_; try simp only [ex_seq, ex_block])
        | (refine tr_label ?_; try simp only [ex_seq, ex_block])
        | (refine tr_exit ?_; try simp only [ex_seq_exit, ex_block_exit, Nat.reduceEqDiff, if_true, if_false, ex_seq, ex_block, reduceCtorEq, ↓reduceIte])
        | (refine tr_ret ?_; try simp only [ex_seq_ret, ex_block_ret]))
    refine tr_cond rfl (fun ht => ?_) (fun hf => ?_)
    · cases ht
    · repeat (first
          | refine tr_seq_k fun _ _ => ?_
          | (refine tr_region ?_; simp only [go_sem, List.getElem?_toArray, str_beq, reduceCtorEq, Nat.reduceEqDiff, Nat.reduceLT, Nat.reduceLeDiff, Nat.reduceAdd, Nat.reduceMul, Nat.reduceSub, Nat.reduceBEq, ↓reduceIte, bne_self_eq_false, Bool.and_false, Bool.false_and, Bool.true_or, Bool.false_or])
          | (refine tr_draw (id := 7) follows 12 [12] [0, 1, 2, 3, 4, 5, 6, 7, 8, 9, 10, 11, 12] (by kernel_rfl) ?_; simp only [go_sem, List.getElem?_toArray, str_beq, reduceCtorEq, Nat.reduceEqDiff, Nat.reduceLT, Nat.reduceLeDiff, Nat.reduceAdd, Nat.reduceMul, Nat.reduceSub, Nat.reduceBEq, ↓reduceIte, bne_self_eq_false, Bool.and_false, Bool.false_and, Bool.true_or, Bool.false_or])
          | (refine call_givesW (hh) ?_; (try dsimp only); (try simp only [go_sem, List.getElem?_toArray, str_beq, reduceCtorEq, Nat.reduceEqDiff, Nat.reduceLT, Nat.reduceLeDiff, Nat.reduceAdd, Nat.reduceMul, Nat.reduceSub, Nat.reduceBEq, ↓reduceIte, bne_self_eq_false, Bool.and_false, Bool.false_and, Bool.true_or, Bool.false_or]))
          | refine k_of (by assumption) ?_
          | refine tr_block ?_
          | refine tr_scope ?_
          | (refine tr_skip ?_; try simp only [ex_seq, ex_block])
          | (refine tr_label ?_; try simp only [ex_seq, ex_block])
          | (refine tr_exit ?_; try simp only [ex_seq_exit, ex_block_exit, Nat.reduceEqDiff, if_true, if_false, ex_seq, ex_block, reduceCtorEq, ↓reduceIte])
          | (refine tr_ret ?_; try simp only [ex_seq_ret, ex_block_ret]))
      refine tr_cond rfl (fun ht => ?_) (fun hf => ?_)
      · repeat (first
            | refine tr_seq_k fun _ _ => ?_
            | (refine tr_region ?_; simp only [go_sem, List.getElem?_toArray, str_beq, reduceCtorEq, Nat.reduceEqDiff, Nat.reduceLT, Nat.reduceLeDiff, Nat.reduceAdd, Nat.reduceMul, Nat.reduceSub, Nat.reduceBEq, ↓reduceIte, bne_self_eq_false, Bool.and_false, Bool.false_and, Bool.true_or, Bool.false_or])
            | (refine tr_draw (id := 7) follows 12 [12] [0, 1, 2, 3, 4, 5, 6, 7, 8, 9, 10, 11, 12] (by kernel_rfl) ?_; simp only [go_sem, List.getElem?_toArray, str_beq, reduceCtorEq, Nat.reduceEqDiff, Nat.reduceLT, Nat.reduceLeDiff, Nat.reduceAdd, Nat.reduceMul, Nat.reduceSub, Nat.reduceBEq, ↓reduceIte, bne_self_eq_false, Bool.and_false, Bool.false_and, Bool.true_or, Bool.false_or])
            | refine k_of (by assumption) ?_
            | refine tr_block ?_
            | refine tr_scope ?_
            | (refine tr_skip ?_; try simp only [ex_seq, ex_block])
            | (refine tr_label ?_; try simp only [ex_seq, ex_block])
            | (refine tr_exit ?_; try simp only [ex_seq_exit, ex_block_exit, Nat.reduceEqDiff, if_true, if_false, ex_seq, ex_block, reduceCtorEq, ↓reduceIte])
            | (refine tr_ret ?_; try simp only [ex_seq_ret, ex_block_ret]))
        refine (hQ _ _ [iA 13] ?_ rfl rfl).2 <;> simp only [go_sem, List.getElem?_toArray, str_beq, reduceCtorEq, Nat.reduceEqDiff, Nat.reduceLT, Nat.reduceLeDiff, Nat.reduceAdd, Nat.reduceMul, Nat.reduceSub, Nat.reduceBEq, ↓reduceIte, bne_self_eq_false, Bool.and_false, Bool.false_and, Bool.true_or, Bool.false_or, Try.f12]
      · cases hf
  | true =>
    rw [h0] at hh
    obtain ⟨k, rfl, hk, hne⟩ := hasS_spec h0
    obtain ⟨hE', L, rfl, rfl, hL, hEL, hkL, hg⟩ := row_get hE hk
    have hEk : E[k]? = some (E[k].1, E[k].2) := List.getElem?_eq_getElem hk
    have hu0 : 0 < (L[k]).2 := by
      rw [hg]
      exact Nat.pos_of_ne_zero fun e => hne ((hI.zero k _ hEk).1 e)
    have hub : (L[k]).2 ≤ 100000 := by rw [hg]; exact hU _ (List.getElem_mem hk)
    have i1 := en_idx (b := hE') (n := E.length) hk
    have g1 := en_get1 hkL
    have w1 : IntKind.i64.wrap (((L[k]).2 : Nat) - 1) = (((L[k]).2 - 1 : Nat) : Int) := wrap_pred hu0 (by omega)
    have f1 := en_fit1 hkL
    have e1 := en_set1 hkL ((L[k]).2 - 1)
    subst hS
    have hnn : hE' ≠ b ∧ hE' ≠ mb ∧ hE' ∉ s1 := nd_last hnd
    have hbm : b ≠ mb ∧ b ∉ s1 ∧ mb ∉ s1 := by
      simp only [List.nodup_cons, List.mem_cons, List.mem_append, not_or, List.nodup_append] at hnd
      exact ⟨hnd.1.1, hnd.1.2.1, hnd.2.1.1⟩
    have hl2 := (List.getElem?_eq_some_iff.1 hL).1
    have hml := (List.getElem?_eq_some_iff.1 hN).1
    have hlen : ∀ x, (L.set k x).length = L.length := fun x => List.length_set
    have gb1 : ∀ x, (setB m hE' x).hp[b]? = some ⟨false, [c1, .lsl hE' 0 E.length 2, .mapp mb]⟩ := fun x => by rw [setB_ne hnn.1]; exact hb
    have gE1 : ∀ x, (setB m hE' x).hp[hE']? = some x := fun x => setB_self hl2 x
    have gN1 : ∀ x, (setB m hE' x).hp[mb]? = some ⟨false, [.ent (nmI N)]⟩ := fun x => by rw [setB_ne hnn.2.1]; exact hN
    have hg2 : (blC enC (L.set k ((L[k]).1, (L[k]).2 - 1)))[k * 2 + 1]? = some (iA ((L[k]).2 - 1 : Nat)) := by
      have := en_get1 (L := L.set k ((L[k]).1, (L[k]).2 - 1)) (k := k) (by rw [hlen]; exact hkL)
      rw [List.getElem_set_self] at this
      exact this
    rw [if_pos rfl, Int.toNat_natCast, getD_at hk, ← hg]
    cases h5 : ((((L[k]).2 - 1 : Nat) : Int) == 0) with
    | false =>
      have h5' : (L[k]).2 ≠ 1 := fun e => by
        rw [e] at h5
        cases h5
      rw [if_neg h5']
      refine ⟨setB m hE' ⟨false, blC enC (L.set k ((L[k]).1, (L[k]).2 - 1))⟩, b :: mb :: (s1 ++ [hE']), ?_, ?_, Kp.stB (i := hE') hW (by simp) lows_blC⟩
      · refine givesW_of' Try.func12 rfl (by kernel_rfl) Try.ntmps12 rfl rfl fun Q hQ => ?_
        repeat (first
            | refine tr_seq_k fun _ _ => ?_
            | (refine tr_region ?_; simp only [go_sem, List.getElem?_toArray, str_beq, reduceCtorEq, Nat.reduceEqDiff, Nat.reduceLT, Nat.reduceLeDiff, Nat.reduceAdd, Nat.reduceMul, Nat.reduceSub, Nat.reduceBEq, ↓reduceIte, bne_self_eq_false, Bool.and_false, Bool.false_and, Bool.true_or, Bool.false_or])
            | (refine tr_draw (id := 7) follows 12 [12] [0, 1, 2, 3, 4, 5, 6, 7, 8, 9, 10, 11, 12] (by kernel_rfl) ?_; simp only [go_sem, List.getElem?_toArray, str_beq, reduceCtorEq, Nat.reduceEqDiff, Nat.reduceLT, Nat.reduceLeDiff, Nat.reduceAdd, Nat.reduceMul, Nat.reduceSub, Nat.reduceBEq, ↓reduceIte, bne_self_eq_false, Bool.and_false, Bool.false_and, Bool.true_or, Bool.false_or])
            | (refine call_givesW (hh) ?_; (try dsimp only); (try simp only [go_sem, List.getElem?_toArray, str_beq, reduceCtorEq, Nat.reduceEqDiff, Nat.reduceLT, Nat.reduceLeDiff, Nat.reduceAdd, Nat.reduceMul, Nat.reduceSub, Nat.reduceBEq, ↓reduceIte, bne_self_eq_false, Bool.and_false, Bool.false_and, Bool.true_or, Bool.false_or]))
            | refine k_of (by assumption) ?_
            | refine tr_block ?_
            | refine tr_scope ?_
            | (refine tr_skip ?_; try simp only [ex_seq, ex_block])
            | (refine tr_label ?_; try simp only [ex_seq, ex_block])
            | (refine tr_exit ?_; try simp only [ex_seq_exit, ex_block_exit, Nat.reduceEqDiff, if_true, if_false, ex_seq, ex_block, reduceCtorEq, ↓reduceIte])
            | (refine tr_ret ?_; try simp only [ex_seq_ret, ex_block_ret]))
        refine tr_cond rfl (fun ht => ?_) (fun hf => ?_)
        · cases ht
        · repeat (first
              | refine tr_seq_k fun _ _ => ?_
              | (refine tr_region ?_; simp only [go_sem, List.getElem?_toArray, str_beq, reduceCtorEq, Nat.reduceEqDiff, Nat.reduceLT, Nat.reduceLeDiff, Nat.reduceAdd, Nat.reduceMul, Nat.reduceSub, Nat.reduceBEq, ↓reduceIte, bne_self_eq_false, Bool.and_false, Bool.false_and, Bool.true_or, Bool.false_or])
              | (refine tr_draw (id := 7) follows 12 [12] [0, 1, 2, 3, 4, 5, 6, 7, 8, 9, 10, 11, 12] (by kernel_rfl) ?_; simp only [go_sem, List.getElem?_toArray, str_beq, reduceCtorEq, Nat.reduceEqDiff, Nat.reduceLT, Nat.reduceLeDiff, Nat.reduceAdd, Nat.reduceMul, Nat.reduceSub, Nat.reduceBEq, ↓reduceIte, bne_self_eq_false, Bool.and_false, Bool.false_and, Bool.true_or, Bool.false_or])
              | (refine call_givesW (hh) ?_; (try dsimp only); (try simp only [go_sem, List.getElem?_toArray, str_beq, reduceCtorEq, Nat.reduceEqDiff, Nat.reduceLT, Nat.reduceLeDiff, Nat.reduceAdd, Nat.reduceMul, Nat.reduceSub, Nat.reduceBEq, ↓reduceIte, bne_self_eq_false, Bool.and_false, Bool.false_and, Bool.true_or, Bool.false_or]))
              | refine k_of (by assumption) ?_
              | refine tr_block ?_
              | refine tr_scope ?_
              | (refine tr_skip ?_; try simp only [ex_seq, ex_block])
              | (refine tr_label ?_; try simp only [ex_seq, ex_block])
              | (refine tr_exit ?_; try simp only [ex_seq_exit, ex_block_exit, Nat.reduceEqDiff, if_true, if_false, ex_seq, ex_block, reduceCtorEq, ↓reduceIte])
              | (refine tr_ret ?_; try simp only [ex_seq_ret, ex_block_ret]))
          refine tr_cond rfl (fun ht => ?_) (fun hf => ?_)
          · cases ht
          · repeat (first
                | refine tr_seq_k fun _ _ => ?_
                | (refine tr_region ?_; simp only [go_sem, List.getElem?_toArray, str_beq, reduceCtorEq, Nat.reduceEqDiff, Nat.reduceLT, Nat.reduceLeDiff, Nat.reduceAdd, Nat.reduceMul, Nat.reduceSub, Nat.reduceBEq, ↓reduceIte, bne_self_eq_false, Bool.and_false, Bool.false_and, Bool.true_or, Bool.false_or, hb, p1, hL, i1, g1, w1, f1, e1, setB_eq, gb1, gE1, hg2, h5])
                | (refine tr_draw (id := 7) follows 12 [12] [0, 1, 2, 3, 4, 5, 6, 7, 8, 9, 10, 11, 12] (by kernel_rfl) ?_; simp only [go_sem, List.getElem?_toArray, str_beq, reduceCtorEq, Nat.reduceEqDiff, Nat.reduceLT, Nat.reduceLeDiff, Nat.reduceAdd, Nat.reduceMul, Nat.reduceSub, Nat.reduceBEq, ↓reduceIte, bne_self_eq_false, Bool.and_false, Bool.false_and, Bool.true_or, Bool.false_or, hb, p1, hL, i1, g1, w1, f1, e1, setB_eq, gb1, gE1, hg2, h5])
                | refine k_of (by assumption) ?_
                | refine tr_block ?_
                | refine tr_scope ?_
                | (refine tr_skip ?_; try simp only [ex_seq, ex_block])
                | (refine tr_label ?_; try simp only [ex_seq, ex_block])
                | (refine tr_exit ?_; try simp only [ex_seq_exit, ex_block_exit, Nat.reduceEqDiff, if_true, if_false, ex_seq, ex_block, reduceCtorEq, ↓reduceIte])
                | (refine tr_ret ?_; try simp only [ex_seq_ret, ex_block_ret]))
            refine tr_cond rfl (fun ht => ?_) (fun hf => ?_)
            · cases ht
            · repeat (first
                  | refine tr_seq_k fun _ _ => ?_
                  | (refine tr_region ?_; simp only [go_sem, List.getElem?_toArray, str_beq, reduceCtorEq, Nat.reduceEqDiff, Nat.reduceLT, Nat.reduceLeDiff, Nat.reduceAdd, Nat.reduceMul, Nat.reduceSub, Nat.reduceBEq, ↓reduceIte, bne_self_eq_false, Bool.and_false, Bool.false_and, Bool.true_or, Bool.false_or])
                  | (refine tr_draw (id := 7) follows 12 [12] [0, 1, 2, 3, 4, 5, 6, 7, 8, 9, 10, 11, 12] (by kernel_rfl) ?_; simp only [go_sem, List.getElem?_toArray, str_beq, reduceCtorEq, Nat.reduceEqDiff, Nat.reduceLT, Nat.reduceLeDiff, Nat.reduceAdd, Nat.reduceMul, Nat.reduceSub, Nat.reduceBEq, ↓reduceIte, bne_self_eq_false, Bool.and_false, Bool.false_and, Bool.true_or, Bool.false_or])
                  | refine k_of (by assumption) ?_
                  | refine tr_block ?_
                  | refine tr_scope ?_
                  | (refine tr_skip ?_; try simp only [ex_seq, ex_block])
                  | (refine tr_label ?_; try simp only [ex_seq, ex_block])
                  | (refine tr_exit ?_; try simp only [ex_seq_exit, ex_block_exit, Nat.reduceEqDiff, if_true, if_false, ex_seq, ex_block, reduceCtorEq, ↓reduceIte])
                  | (refine tr_ret ?_; try simp only [ex_seq_ret, ex_block_ret]))
              refine (hQ _ _ [iA 0] ?_ rfl rfl).2 <;> simp only [go_sem, List.getElem?_toArray, str_beq, reduceCtorEq, Nat.reduceEqDiff, Nat.reduceLT, Nat.reduceLeDiff, Nat.reduceAdd, Nat.reduceMul, Nat.reduceSub, Nat.reduceBEq, ↓reduceIte, bne_self_eq_false, Bool.and_false, Bool.false_and, Bool.true_or, Bool.false_or, Try.f12]
      · refine ⟨c1, .lsl hE' 0 E.length 2, mb, F, N, s1, [hE'], gb1 _, ?_, ?_, gN1 _, ?_, rfl, hnd⟩
        · exact hF.keep (Kp.stB (i := hE') (S := [hE']) hW (by simp) lows_blC) (fun i hi h2 => hnn.2.2 (by simp at h2; rw [← h2]; exact hi))
        · exact Or.inr ⟨hE', _, by rw [List.length_set], rfl, gE1 _, take_set hEL hk _⟩
        · rw [hg]
          exact hI.again hEk hne (by rw [← hg]; omega)
    | true =>
      have h5' : (L[k]).2 = 1 := by
        have := eq_of_beq h5
        omega
      rw [if_pos h5']
      have g0 := en_get0 (L := L.set k ((L[k]).1, (L[k]).2 - 1)) (k := k) (by rw [hlen]; exact hkL)
      rw [List.getElem_set_self] at g0
      have g0' : (blC enC (L.set k ((L[k]).1, (L[k]).2 - 1)))[k * 2]? = some (sA (L[k]).1) := g0
      have hin : ((L[k]).1, k) ∈ N := (hI.nmem _ _).2 ⟨_, by rw [hg]; exact hEk, by rw [← hg]; exact hu0⟩
      obtain ⟨j, hlk, hj⟩ := nmI_some und_str hI.nnd hin (nmI N).isEmpty
      have f0 : (k * 2 + 2 ≤ (blC enC (L.set k ((L[k]).1, (L[k]).2 - 1))).length) = True := en_fit0 (by rw [hlen]; exact hkL)
      have e2 := en_set (L := L.set k ((L[k]).1, (L[k]).2 - 1)) (k := k) (by rw [hlen]; exact hkL) (emp, 0)
      rw [List.set_set] at e2
      have e2' : List.take (k * 2) (blC enC (L.set k ((L[k]).1, (L[k]).2 - 1))) ++ [sA ⟨#[]⟩, iA 0] ++ List.drop (k * 2 + 2) (blC enC (L.set k ((L[k]).1, (L[k]).2 - 1))) = blC enC (L.set k (emp, 0)) := e2
      have k1 : Kp m (setB m hE' ⟨false, blC enC (L.set k ((L[k]).1, (L[k]).2 - 1))⟩) (b :: mb :: (s1 ++ [hE'])) (b :: mb :: (s1 ++ [hE'])) := Kp.stB (i := hE') hW (by simp) lows_blC
      have gE1 := gE1 ⟨false, blC enC (L.set k ((L[k]).1, (L[k]).2 - 1))⟩
      have gN1 := gN1 ⟨false, blC enC (L.set k ((L[k]).1, (L[k]).2 - 1))⟩
      have gb1 := gb1 ⟨false, blC enC (L.set k ((L[k]).1, (L[k]).2 - 1))⟩
      generalize hm1 : setB m hE' ⟨false, blC enC (L.set k ((L[k]).1, (L[k]).2 - 1))⟩ = m1 at *
      have hl21 := (List.getElem?_eq_some_iff.1 gE1).1
      have hml1 := (List.getElem?_eq_some_iff.1 gN1).1
      have k2 := k1.put (i := mb) (nb := ⟨false, [.ent (nmI (N.eraseIdx j))]⟩) (by simp) rfl
      have gE2 : (setB m1 mb ⟨false, [.ent (nmI (N.eraseIdx j))]⟩).hp[hE']? = some ⟨false, blC enC (L.set k ((L[k]).1, (L[k]).2 - 1))⟩ := by rw [setB_ne (Ne.symm hnn.2.1)]; exact gE1
      have gN2 := setB_self hml1 (⟨false, [.ent (nmI (N.eraseIdx j))]⟩ : Blk)
      have gb2 : (setB m1 mb ⟨false, [.ent (nmI (N.eraseIdx j))]⟩).hp[b]? = some ⟨false, [c1, .lsl hE' 0 E.length 2, .mapp mb]⟩ := by rw [setB_ne (Ne.symm hbm.1)]; exact gb1
      generalize hm2 : setB m1 mb ⟨false, [.ent (nmI (N.eraseIdx j))]⟩ = m2 at *
      have hl22 := (List.getElem?_eq_some_iff.1 gE2).1
      have k3 := k2.put (i := hE') (nb := ⟨false, blC enC (L.set k (emp, 0))⟩) (by simp) lows_blC
      have gE3 := setB_self hl22 (⟨false, blC enC (L.set k (emp, 0))⟩ : Blk)
      have gN3 : (setB m2 hE' ⟨false, blC enC (L.set k (emp, 0))⟩).hp[mb]? = some ⟨false, [.ent (nmI (N.eraseIdx j))]⟩ := by rw [setB_ne hnn.2.1]; exact gN2
      have gb3 : (setB m2 hE' ⟨false, blC enC (L.set k (emp, 0))⟩).hp[b]? = some ⟨false, [c1, .lsl hE' 0 E.length 2, .mapp mb]⟩ := by rw [setB_ne hnn.1]; exact gb2
      generalize hm3 : setB m2 hE' ⟨false, blC enC (L.set k (emp, 0))⟩ = m3 at *
      have hF3 : RowAt m3 inC 1 c1 F s1 := by
        rcases hF with hF | ⟨h', L', q1, q2, q3, q4⟩
        · exact Or.inl hF
        · refine Or.inr ⟨h', L', q1, q2, ?_, q4⟩
          subst q2
          have t1 : hE' ≠ h' := fun e => hnn.2.2 (by simp [e])
          have t2 : mb ≠ h' := fun e => hbm.2.2 (by simp [e])
          rw [← hm3, setB_ne t1, ← hm2, setB_ne t2, ← hm1, setB_ne t1]
          exact q3
      have hFl : F.length ≤ 1000 := Nat.le_trans hI.free_le hM
      obtain ⟨m4, h4, c6, gb4, gF4, hb4, k4⟩ := hpush gb3 hF3 hbm.2.1 k3.wf (k : Int) (by omega)
      have k5 : Kp m m4 (b :: mb :: (s1 ++ [hE'])) (b :: mb :: ([h4] ++ [hE'])) := k3.trans (k4.mono (fun i hi => by
        simp only [List.mem_cons, List.mem_append] at hi ⊢
        rcases hi with hi | hi
        · exact Or.inl hi
        · exact Or.inr (Or.inr (Or.inl hi))) (fun i hi => by
        simp only [List.mem_cons, List.mem_append, List.not_mem_nil, or_false] at hi ⊢
        rcases hi with hi | hi | hi | hi
        · exact Or.inl (Or.inl hi)
        · exact Or.inr (Or.inr (Or.inl hi))
        · exact Or.inl (Or.inr hi)
        · exact Or.inr (Or.inr (Or.inr (Or.inr hi)))))
      have hnew : h4 ≠ mb ∧ h4 ≠ hE' := by
        rcases k4.new h4 (by simp) with hq | hq
        · simp only [List.mem_cons] at hq
          rcases hq with hq | hq
          · exact absurd hq hb4
          · exact ⟨fun e => hbm.2.2 (by rw [← e]; exact hq), fun e => hnn.2.2 (by rw [← e]; exact hq)⟩
        · have q1 := (List.getElem?_eq_some_iff.1 gN3).1
          have q2 := (List.getElem?_eq_some_iff.1 gE3).1
          exact ⟨by omega, by omega⟩
      refine ⟨m4, b :: mb :: ([h4] ++ [hE']), ?_, ?_, k5⟩
      · refine givesW_of' Try.func12 rfl (by kernel_rfl) Try.ntmps12 rfl rfl fun Q hQ => ?_
        repeat (first
            | refine tr_seq_k fun _ _ => ?_
            | (refine tr_region ?_; simp only [go_sem, List.getElem?_toArray, str_beq, reduceCtorEq, Nat.reduceEqDiff, Nat.reduceLT, Nat.reduceLeDiff, Nat.reduceAdd, Nat.reduceMul, Nat.reduceSub, Nat.reduceBEq, ↓reduceIte, bne_self_eq_false, Bool.and_false, Bool.false_and, Bool.true_or, Bool.false_or])
            | (refine tr_draw (id := 7) follows 12 [12] [0, 1, 2, 3, 4, 5, 6, 7, 8, 9, 10, 11, 12] (by kernel_rfl) ?_; simp only [go_sem, List.getElem?_toArray, str_beq, reduceCtorEq, Nat.reduceEqDiff, Nat.reduceLT, Nat.reduceLeDiff, Nat.reduceAdd, Nat.reduceMul, Nat.reduceSub, Nat.reduceBEq, ↓reduceIte, bne_self_eq_false, Bool.and_false, Bool.false_and, Bool.true_or, Bool.false_or])
            | (refine call_givesW (hh) ?_; (try dsimp only); (try simp only [go_sem, List.getElem?_toArray, str_beq, reduceCtorEq, Nat.reduceEqDiff, Nat.reduceLT, Nat.reduceLeDiff, Nat.reduceAdd, Nat.reduceMul, Nat.reduceSub, Nat.reduceBEq, ↓reduceIte, bne_self_eq_false, Bool.and_false, Bool.false_and, Bool.true_or, Bool.false_or]))
            | refine k_of (by assumption) ?_
            | refine tr_block ?_
            | refine tr_scope ?_
            | (refine tr_skip ?_; try simp only [ex_seq, ex_block])
            | (refine tr_label ?_; try simp only [ex_seq, ex_block])
            | (refine tr_exit ?_; try simp only [ex_seq_exit, ex_block_exit, Nat.reduceEqDiff, if_true, if_false, ex_seq, ex_block, reduceCtorEq, ↓reduceIte])
            | (refine tr_ret ?_; try simp only [ex_seq_ret, ex_block_ret]))
        refine tr_cond rfl (fun ht => ?_) (fun hf => ?_)
        · cases ht
        · repeat (first
              | refine tr_seq_k fun _ _ => ?_
              | (refine tr_region ?_; simp only [go_sem, List.getElem?_toArray, str_beq, reduceCtorEq, Nat.reduceEqDiff, Nat.reduceLT, Nat.reduceLeDiff, Nat.reduceAdd, Nat.reduceMul, Nat.reduceSub, Nat.reduceBEq, ↓reduceIte, bne_self_eq_false, Bool.and_false, Bool.false_and, Bool.true_or, Bool.false_or])
              | (refine tr_draw (id := 7) follows 12 [12] [0, 1, 2, 3, 4, 5, 6, 7, 8, 9, 10, 11, 12] (by kernel_rfl) ?_; simp only [go_sem, List.getElem?_toArray, str_beq, reduceCtorEq, Nat.reduceEqDiff, Nat.reduceLT, Nat.reduceLeDiff, Nat.reduceAdd, Nat.reduceMul, Nat.reduceSub, Nat.reduceBEq, ↓reduceIte, bne_self_eq_false, Bool.and_false, Bool.false_and, Bool.true_or, Bool.false_or])
              | (refine call_givesW (hh) ?_; (try dsimp only); (try simp only [go_sem, List.getElem?_toArray, str_beq, reduceCtorEq, Nat.reduceEqDiff, Nat.reduceLT, Nat.reduceLeDiff, Nat.reduceAdd, Nat.reduceMul, Nat.reduceSub, Nat.reduceBEq, ↓reduceIte, bne_self_eq_false, Bool.and_false, Bool.false_and, Bool.true_or, Bool.false_or]))
              | refine k_of (by assumption) ?_
              | refine tr_block ?_
              | refine tr_scope ?_
              | (refine tr_skip ?_; try simp only [ex_seq, ex_block])
              | (refine tr_label ?_; try simp only [ex_seq, ex_block])
              | (refine tr_exit ?_; try simp only [ex_seq_exit, ex_block_exit, Nat.reduceEqDiff, if_true, if_false, ex_seq, ex_block, reduceCtorEq, ↓reduceIte])
              | (refine tr_ret ?_; try simp only [ex_seq_ret, ex_block_ret]))
          refine tr_cond rfl (fun ht => ?_) (fun hf => ?_)
          · cases ht
          · repeat (first
                | refine tr_seq_k fun _ _ => ?_
                | (refine tr_region ?_; simp only [go_sem, List.getElem?_toArray, str_beq, reduceCtorEq, Nat.reduceEqDiff, Nat.reduceLT, Nat.reduceLeDiff, Nat.reduceAdd, Nat.reduceMul, Nat.reduceSub, Nat.reduceBEq, ↓reduceIte, bne_self_eq_false, Bool.and_false, Bool.false_and, Bool.true_or, Bool.false_or, hb, p1, hL, i1, g1, w1, f1, e1, setB_eq, hm1, gb1, gE1, hg2, h5])
                | (refine tr_draw (id := 7) follows 12 [12] [0, 1, 2, 3, 4, 5, 6, 7, 8, 9, 10, 11, 12] (by kernel_rfl) ?_; simp only [go_sem, List.getElem?_toArray, str_beq, reduceCtorEq, Nat.reduceEqDiff, Nat.reduceLT, Nat.reduceLeDiff, Nat.reduceAdd, Nat.reduceMul, Nat.reduceSub, Nat.reduceBEq, ↓reduceIte, bne_self_eq_false, Bool.and_false, Bool.false_and, Bool.true_or, Bool.false_or, hb, p1, hL, i1, g1, w1, f1, e1, setB_eq, hm1, gb1, gE1, hg2, h5])
                | refine k_of (by assumption) ?_
                | refine tr_block ?_
                | refine tr_scope ?_
                | (refine tr_skip ?_; try simp only [ex_seq, ex_block])
                | (refine tr_label ?_; try simp only [ex_seq, ex_block])
                | (refine tr_exit ?_; try simp only [ex_seq_exit, ex_block_exit, Nat.reduceEqDiff, if_true, if_false, ex_seq, ex_block, reduceCtorEq, ↓reduceIte])
                | (refine tr_ret ?_; try simp only [ex_seq_ret, ex_block_ret]))
            refine tr_cond rfl (fun ht => ?_) (fun hf => ?_)
            · repeat (first
                  | refine tr_seq_k fun _ _ => ?_
                  | (refine tr_region ?_; simp only [go_sem, List.getElem?_toArray, str_beq, reduceCtorEq, Nat.reduceEqDiff, Nat.reduceLT, Nat.reduceLeDiff, Nat.reduceAdd, Nat.reduceMul, Nat.reduceSub, Nat.reduceBEq, ↓reduceIte, bne_self_eq_false, Bool.and_false, Bool.false_and, Bool.true_or, Bool.false_or, gb1, p1, gE1, i1, g0', gN1, setB_eq, aMapDel, mDel, hlk, nmI_erase, hm2, gb2, gE2, f0, e2', hm3, gb3])
                  | (refine tr_draw (id := 7) follows 12 [12] [0, 1, 2, 3, 4, 5, 6, 7, 8, 9, 10, 11, 12] (by kernel_rfl) ?_; simp only [go_sem, List.getElem?_toArray, str_beq, reduceCtorEq, Nat.reduceEqDiff, Nat.reduceLT, Nat.reduceLeDiff, Nat.reduceAdd, Nat.reduceMul, Nat.reduceSub, Nat.reduceBEq, ↓reduceIte, bne_self_eq_false, Bool.and_false, Bool.false_and, Bool.true_or, Bool.false_or, gb1, p1, gE1, i1, g0', gN1, setB_eq, aMapDel, mDel, hlk, nmI_erase, hm2, gb2, gE2, f0, e2', hm3, gb3])
                  | (refine call_givesW (c6) ?_; (try dsimp only); (try simp only [go_sem, List.getElem?_toArray, str_beq, reduceCtorEq, Nat.reduceEqDiff, Nat.reduceLT, Nat.reduceLeDiff, Nat.reduceAdd, Nat.reduceMul, Nat.reduceSub, Nat.reduceBEq, ↓reduceIte, bne_self_eq_false, Bool.and_false, Bool.false_and, Bool.true_or, Bool.false_or, gb1, p1, gE1, i1, g0', gN1, setB_eq, aMapDel, mDel, hlk, nmI_erase, hm2, gb2, gE2, f0, e2', hm3, gb3]))
                  | refine k_of (by assumption) ?_
                  | refine tr_block ?_
                  | refine tr_scope ?_
                  | (refine tr_skip ?_; try simp only [ex_seq, ex_block])
                  | (refine tr_label ?_; try simp only [ex_seq, ex_block])
                  | (refine tr_exit ?_; try simp only [ex_seq_exit, ex_block_exit, Nat.reduceEqDiff, if_true, if_false, ex_seq, ex_block, reduceCtorEq, ↓reduceIte])
                  | (refine tr_ret ?_; try simp only [ex_seq_ret, ex_block_ret]))
              refine (hQ _ _ [iA 0] ?_ rfl rfl).2 <;> simp only [go_sem, List.getElem?_toArray, str_beq, reduceCtorEq, Nat.reduceEqDiff, Nat.reduceLT, Nat.reduceLeDiff, Nat.reduceAdd, Nat.reduceMul, Nat.reduceSub, Nat.reduceBEq, ↓reduceIte, bne_self_eq_false, Bool.and_false, Bool.false_and, Bool.true_or, Bool.false_or, Try.f12]
            · cases hf
      · refine ⟨.lsl h4 0 (F.length + 1) 1, .lsl hE' 0 E.length 2, mb, pushF F k, N.eraseIdx j, [h4], [hE'], gb4, ?_, ?_, ?_, ?_, rfl, ?_⟩
        · have hp := push_ok hI.heap (k : Int)
          have e : (pushF F k).length = F.length + 1 := by rw [hp.2.length_eq]; simp
          exact Or.inr ⟨h4, pushF F k, by rw [e], rfl, gF4, by rw [e, List.take_of_length_le (by omega)]⟩
        · refine Or.inr ⟨hE', L.set k (emp, 0), by rw [List.length_set], rfl, k4.old _ _ ?_ gE3, take_set hEL hk _⟩
          simp only [List.mem_cons, not_or]
          exact ⟨hnn.1, hnn.2.2⟩
        · refine k4.old _ _ ?_ gN3
          simp only [List.mem_cons, not_or]
          exact ⟨Ne.symm hbm.1, hbm.2.2⟩
        · have hp := push_ok hI.heap (k : Int)
          rw [hg] at hj
          exact hI.gone hEk hne hp.2 hp.1 hj
        · simp only [List.cons_append, List.nil_append, List.nodup_cons, List.mem_cons, List.not_mem_nil, or_false, not_or, not_false_eq_true, List.nodup_nil, and_true]
          exact ⟨⟨hbm.1, Ne.symm hb4, Ne.symm hnn.1⟩, ⟨Ne.symm hnew.1, Ne.symm hnn.2.1⟩, hnew.2⟩
end Go.Proofs.Ytlhlcfijpdknfaa

/-
  Chapter 2: a text so many times; the chapter's example.
-/
set_option linter.unusedSimpArgs false
set_option linter.unusedVariables false
namespace Go.Proofs.Ytlhlcfijpdknfaa
open Go.Vs Go.Vs.Ab Go.Vs.Hp Go.Vs.Tb
set_option maxRecDepth 100000
set_option maxHeartbeats 4000000

def repS (s : ByteArray) : Nat → ByteArray
  | 0 => emp
  | n + 1 => s ++ repS s n
theorem emp_append (s : ByteArray) : emp ++ s = s := ByteArray.empty_append
theorem append_emp (s : ByteArray) : s ++ emp = s := ByteArray.append_empty
theorem repS_two (s : ByteArray) : ∀ k, repS (s ++ s) k = repS s (2 * k)
  | 0 => rfl
  | k + 1 => by
    rw [show 2 * (k + 1) = 2 * k + 1 + 1 by omega]
    simp only [repS, repS_two s k, ByteArray.append_assoc]
theorem repS_size (s : ByteArray) : ∀ n, (repS s n).size = n * s.size
  | 0 => by simp [repS, emp]; rfl
  | n + 1 => by simp only [repS, ByteArray.size_append, repS_size s n, Nat.add_mul]; omega

theorem times_does {s : ByteArray} {n : Nat} (hs : s.size * n ≤ 1000000) (hn : n ≤ 1000000) : Does Try.prog 11 [sA s, iA n] (fun m => (sA (repS s n), m)) := by
  refine does_of' Try.func11 rfl (by kernel_rfl) rfl Try.ntmps11 rfl rfl fun Q hQ => ?_
  repeat (first
      | refine tr_seq_k fun _ _ => ?_
      | (refine tr_region ?_; simp only [go_sem, List.getElem?_toArray, str_beq, reduceCtorEq, Nat.reduceEqDiff, Nat.reduceLT, Nat.reduceLeDiff, Nat.reduceAdd, Nat.reduceMul, Nat.reduceSub, Nat.reduceBEq, ↓reduceIte, bne_self_eq_false, Bool.and_false, Bool.false_and, Bool.true_or, Bool.false_or])
      | refine k_of (by assumption) ?_
      | refine tr_block ?_
      | refine tr_scope ?_
      | (refine tr_skip ?_; try simp only [ex_seq, ex_block])
      | (refine tr_label ?_; try simp only [ex_seq, ex_block])
      | (refine tr_exit ?_; try simp only [ex_seq_exit, ex_block_exit, Nat.reduceEqDiff, if_true, if_false, ex_seq, ex_block, reduceCtorEq, ↓reduceIte])
      | (refine tr_ret ?_; try simp only [ex_seq_ret, ex_block_ret]))
  refine tr_loop_k (σ := ByteArray × ByteArray × Nat) (fun q => [(0, sA q.2.1), (1, iA q.2.2), (5, sA q.1)]) (fun _ => ⟨[], []⟩)
    (fun q => q.1 ++ repS q.2.1 q.2.2 = repS s n ∧ q.1.size + q.2.1.size * q.2.2 ≤ 1000000 ∧ q.2.2 ≤ 1000000) (fun q => q.2.2) (emp, s, n) ⟨emp_append _, by show 0 + s.size * n ≤ _; omega, hn⟩ ⟨rfl, rfl, rfl, trivial⟩ rfl ?_
  rintro ⟨o, t, k⟩ ⟨h1, h2, h3⟩ K hK
  dsimp only at h1 h2 h3 hK
  have two : ¬ (2 : Int) = 0 := by decide
  have hgt : ((k : Int) > 0) = ((0 : Int) < (k : Nat)) := rfl
  by_cases hk : k = 0
  · have d1 : decide ((0 : Int) < (k : Nat)) = false := decide_eq_false (by omega)
    have e1 : o = repS s n := by
      rw [← h1, hk]
      exact (append_emp o).symm
    repeat (first
        | refine tr_seq_k fun _ _ => ?_
        | (refine tr_region ?_; simp only [go_sem, List.getElem?_toArray, str_beq, reduceCtorEq, Nat.reduceEqDiff, Nat.reduceLT, Nat.reduceLeDiff, Nat.reduceAdd, Nat.reduceMul, Nat.reduceSub, Nat.reduceBEq, ↓reduceIte, bne_self_eq_false, Bool.and_false, Bool.false_and, Bool.true_or, Bool.false_or, d1])
        | refine k_of (by assumption) ?_
        | refine tr_block ?_
        | refine tr_scope ?_
        | (refine tr_skip ?_; try simp only [ex_seq, ex_block])
        | (refine tr_label ?_; try simp only [ex_seq, ex_block])
        | (refine tr_exit ?_; try simp only [ex_seq_exit, ex_block_exit, Nat.reduceEqDiff, if_true, if_false, ex_seq, ex_block, reduceCtorEq, ↓reduceIte])
        | (refine tr_ret ?_; try simp only [ex_seq_ret, ex_block_ret]))
    refine tr_cond rfl (fun ht => ?_) (fun hf => ?_)
    · cases ht
    · repeat (first
          | refine tr_seq_k fun _ _ => ?_
          | (refine tr_region ?_; simp only [go_sem, List.getElem?_toArray, str_beq, reduceCtorEq, Nat.reduceEqDiff, Nat.reduceLT, Nat.reduceLeDiff, Nat.reduceAdd, Nat.reduceMul, Nat.reduceSub, Nat.reduceBEq, ↓reduceIte, bne_self_eq_false, Bool.and_false, Bool.false_and, Bool.true_or, Bool.false_or])
          | refine k_of (by assumption) ?_
          | refine tr_block ?_
          | refine tr_scope ?_
          | (refine tr_skip ?_; try simp only [ex_seq, ex_block])
          | (refine tr_label ?_; try simp only [ex_seq, ex_block])
          | (refine tr_exit ?_; try simp only [ex_seq_exit, ex_block_exit, Nat.reduceEqDiff, if_true, if_false, ex_seq, ex_block, reduceCtorEq, ↓reduceIte])
          | (refine tr_ret ?_; try simp only [ex_seq_ret, ex_block_ret]))
      refine (hQ _ _ [sA o] ?_ (fun m => ?_)).2 <;> simp only [go_sem, List.getElem?_toArray, str_beq, reduceCtorEq, Nat.reduceEqDiff, Nat.reduceLT, Nat.reduceLeDiff, Nat.reduceAdd, Nat.reduceMul, Nat.reduceSub, Nat.reduceBEq, ↓reduceIte, bne_self_eq_false, Bool.and_false, Bool.false_and, Bool.true_or, Bool.false_or, Try.f11, e1]
  · have d1 : decide ((0 : Int) < (k : Nat)) = true := decide_eq_true (by omega)
    have ht1 : t.size ≤ 1000000 := by
      have : t.size * 1 ≤ t.size * k := Nat.mul_le_mul_left _ (by omega)
      omega
    have w1 : IntKind.i64.wrap ((k : Int).tdiv 2) = ((k / 2 : Nat) : Int) := by
      rw [Int.tdiv_eq_ediv_of_nonneg (by omega), wrap_in (by omega)]
      omega
    have w2 : (k : Int).tmod 2 = ((k % 2 : Nat) : Int) := by
      rw [Int.tmod_eq_emod_of_nonneg (by omega)]
      omega
    have sa : t.size + t.size ≤ 9223372036854775807 := by omega
    have so : o.size + t.size ≤ 9223372036854775807 := by omega
    cases h5 : (((k % 2 : Nat) : Int) == 1) with
    | true =>
      have h5' : k % 2 = 1 := by
        have := eq_of_beq h5
        omega
      repeat (first
          | refine tr_seq_k fun _ _ => ?_
          | (refine tr_region ?_; simp only [go_sem, List.getElem?_toArray, str_beq, reduceCtorEq, Nat.reduceEqDiff, Nat.reduceLT, Nat.reduceLeDiff, Nat.reduceAdd, Nat.reduceMul, Nat.reduceSub, Nat.reduceBEq, ↓reduceIte, bne_self_eq_false, Bool.and_false, Bool.false_and, Bool.true_or, Bool.false_or, d1, two, w2, h5])
          | refine k_of (by assumption) ?_
          | refine tr_block ?_
          | refine tr_scope ?_
          | (refine tr_skip ?_; try simp only [ex_seq, ex_block])
          | (refine tr_label ?_; try simp only [ex_seq, ex_block])
          | (refine tr_exit ?_; try simp only [ex_seq_exit, ex_block_exit, Nat.reduceEqDiff, if_true, if_false, ex_seq, ex_block, reduceCtorEq, ↓reduceIte])
          | (refine tr_ret ?_; try simp only [ex_seq_ret, ex_block_ret]))
      refine tr_cond rfl (fun ht => ?_) (fun hf => ?_)
      · repeat (first
            | refine tr_seq_k fun _ _ => ?_
            | (refine tr_region ?_; simp only [go_sem, List.getElem?_toArray, str_beq, reduceCtorEq, Nat.reduceEqDiff, Nat.reduceLT, Nat.reduceLeDiff, Nat.reduceAdd, Nat.reduceMul, Nat.reduceSub, Nat.reduceBEq, ↓reduceIte, bne_self_eq_false, Bool.and_false, Bool.false_and, Bool.true_or, Bool.false_or, d1, two, w2, h5])
            | refine k_of (by assumption) ?_
            | refine tr_block ?_
            | refine tr_scope ?_
            | (refine tr_skip ?_; try simp only [ex_seq, ex_block])
            | (refine tr_label ?_; try simp only [ex_seq, ex_block])
            | (refine tr_exit ?_; try simp only [ex_seq_exit, ex_block_exit, Nat.reduceEqDiff, if_true, if_false, ex_seq, ex_block, reduceCtorEq, ↓reduceIte])
            | (refine tr_ret ?_; try simp only [ex_seq_ret, ex_block_ret]))
        refine tr_cond rfl (fun ht => ?_) (fun hf => ?_)
        · repeat (first
              | refine tr_seq_k fun _ _ => ?_
              | (refine tr_region ?_; simp only [go_sem, List.getElem?_toArray, str_beq, reduceCtorEq, Nat.reduceEqDiff, Nat.reduceLT, Nat.reduceLeDiff, Nat.reduceAdd, Nat.reduceMul, Nat.reduceSub, Nat.reduceBEq, ↓reduceIte, bne_self_eq_false, Bool.and_false, Bool.false_and, Bool.true_or, Bool.false_or, so_add so, so_add sa, two, w1])
              | refine k_of (by assumption) ?_
              | refine tr_block ?_
              | refine tr_scope ?_
              | (refine tr_skip ?_; try simp only [ex_seq, ex_block])
              | (refine tr_label ?_; try simp only [ex_seq, ex_block])
              | (refine tr_exit ?_; try simp only [ex_seq_exit, ex_block_exit, Nat.reduceEqDiff, if_true, if_false, ex_seq, ex_block, reduceCtorEq, ↓reduceIte])
              | (refine tr_ret ?_; try simp only [ex_seq_ret, ex_block_ret]))
          refine hK (o ++ t, t ++ t, k / 2) _ _ ⟨?_, ?_, by dsimp only; omega⟩ ⟨⟨rfl, rfl, rfl, trivial⟩, Keep.refl _, rfl, rfl, Nat.le_refl _, Nat.le_refl _⟩ (by dsimp only; omega)
          · dsimp only
            have e : k = 2 * (k / 2) + 1 := by omega
            rw [repS_two, ← h1]
            conv => rhs; rw [e]
            simp only [repS, ByteArray.append_assoc]
          · have e : k = 2 * (k / 2) + 1 := by omega
            have e2 : t.size * k = t.size * (2 * (k / 2)) + t.size := by
              conv => lhs; rw [e]
              rw [Nat.mul_add, Nat.mul_one]
            have e3 : (t.size + t.size) * (k / 2) = t.size * (2 * (k / 2)) := by rw [← Nat.two_mul, Nat.mul_comm 2, Nat.mul_assoc]
            simp only [ByteArray.size_append, e3]
            omega
        · cases hf
      · cases hf
    | false =>
      have h5' : ¬ k % 2 = 1 := by
        have := ne_of_beq_false h5
        omega
      repeat (first
          | refine tr_seq_k fun _ _ => ?_
          | (refine tr_region ?_; simp only [go_sem, List.getElem?_toArray, str_beq, reduceCtorEq, Nat.reduceEqDiff, Nat.reduceLT, Nat.reduceLeDiff, Nat.reduceAdd, Nat.reduceMul, Nat.reduceSub, Nat.reduceBEq, ↓reduceIte, bne_self_eq_false, Bool.and_false, Bool.false_and, Bool.true_or, Bool.false_or, d1, two, w2, h5])
          | refine k_of (by assumption) ?_
          | refine tr_block ?_
          | refine tr_scope ?_
          | (refine tr_skip ?_; try simp only [ex_seq, ex_block])
          | (refine tr_label ?_; try simp only [ex_seq, ex_block])
          | (refine tr_exit ?_; try simp only [ex_seq_exit, ex_block_exit, Nat.reduceEqDiff, if_true, if_false, ex_seq, ex_block, reduceCtorEq, ↓reduceIte])
          | (refine tr_ret ?_; try simp only [ex_seq_ret, ex_block_ret]))
      refine tr_cond rfl (fun ht => ?_) (fun hf => ?_)
      · repeat (first
            | refine tr_seq_k fun _ _ => ?_
            | (refine tr_region ?_; simp only [go_sem, List.getElem?_toArray, str_beq, reduceCtorEq, Nat.reduceEqDiff, Nat.reduceLT, Nat.reduceLeDiff, Nat.reduceAdd, Nat.reduceMul, Nat.reduceSub, Nat.reduceBEq, ↓reduceIte, bne_self_eq_false, Bool.and_false, Bool.false_and, Bool.true_or, Bool.false_or, d1, two, w2, h5])
            | refine k_of (by assumption) ?_
            | refine tr_block ?_
            | refine tr_scope ?_
            | (refine tr_skip ?_; try simp only [ex_seq, ex_block])
            | (refine tr_label ?_; try simp only [ex_seq, ex_block])
            | (refine tr_exit ?_; try simp only [ex_seq_exit, ex_block_exit, Nat.reduceEqDiff, if_true, if_false, ex_seq, ex_block, reduceCtorEq, ↓reduceIte])
            | (refine tr_ret ?_; try simp only [ex_seq_ret, ex_block_ret]))
        refine tr_cond rfl (fun ht => ?_) (fun hf => ?_)
        · cases ht
        · repeat (first
              | refine tr_seq_k fun _ _ => ?_
              | (refine tr_region ?_; simp only [go_sem, List.getElem?_toArray, str_beq, reduceCtorEq, Nat.reduceEqDiff, Nat.reduceLT, Nat.reduceLeDiff, Nat.reduceAdd, Nat.reduceMul, Nat.reduceSub, Nat.reduceBEq, ↓reduceIte, bne_self_eq_false, Bool.and_false, Bool.false_and, Bool.true_or, Bool.false_or, so_add so, so_add sa, two, w1])
              | refine k_of (by assumption) ?_
              | refine tr_block ?_
              | refine tr_scope ?_
              | (refine tr_skip ?_; try simp only [ex_seq, ex_block])
              | (refine tr_label ?_; try simp only [ex_seq, ex_block])
              | (refine tr_exit ?_; try simp only [ex_seq_exit, ex_block_exit, Nat.reduceEqDiff, if_true, if_false, ex_seq, ex_block, reduceCtorEq, ↓reduceIte])
              | (refine tr_ret ?_; try simp only [ex_seq_ret, ex_block_ret]))
          have e : k = 2 * (k / 2) := by omega
          refine hK (o, t ++ t, k / 2) _ _ ⟨?_, ?_, by dsimp only; omega⟩ ⟨⟨rfl, rfl, rfl, trivial⟩, Keep.refl _, rfl, rfl, Nat.le_refl _, Nat.le_refl _⟩ (by dsimp only; omega)
          · dsimp only
            rw [repS_two, ← h1]
            conv => rhs; rw [e]
          · have e2 : t.size * k = t.size * (2 * (k / 2)) := by
              conv => lhs; rw [e]
            have e3 : (t.size + t.size) * (k / 2) = t.size * (2 * (k / 2)) := by rw [← Nat.two_mul, Nat.mul_comm 2, Nat.mul_assoc]
            simp only [ByteArray.size_append, e3]
            omega
      · cases hf

theorem kp_wf {m m' : Mm} {S S' : List Nat} (k : Kp m m' S S') : Wf m' := k.wf
theorem wf0 : Wf ⟨[], []⟩ := rfl
theorem lives_does : Does Try.prog 7 [] (fun m => (bA true, m)) := by
  obtain ⟨m0, b, S0, c0, t0, k0⟩ := new_gives wf0
  obtain ⟨m1, S1, c1, t1, k1⟩ := take_tab t0 k0.wf ⟨#[97]⟩ (by decide) (by decide)
  have e1 : takeS [] ⟨#[97]⟩ = ((0, 0), [(⟨#[97]⟩, 1)]) := by decide
  rw [e1] at c1 t1
  obtain ⟨m2, S2, c2, t2, k2⟩ := take_tab t1 k1.wf ⟨#[98]⟩ (by decide) (by decide)
  have e2 : takeS [(⟨#[97]⟩, 1)] ⟨#[98]⟩ = ((1, 0), [(⟨#[97]⟩, 1), (⟨#[98]⟩, 1)]) := by decide
  rw [e2] at c2 t2
  obtain ⟨m3, S3, c3, t3, k3⟩ := take_tab t2 k2.wf ⟨#[97]⟩ (by decide) (by decide)
  have e3 : takeS [(⟨#[97]⟩, 1), (⟨#[98]⟩, 1)] ⟨#[97]⟩ = ((0, 0), [(⟨#[97]⟩, 2), (⟨#[98]⟩, 1)]) := by decide
  rw [e3] at c3 t3
  obtain ⟨m4, S4, c4, t4, k4⟩ := drop_tab t3 k3.wf 0 (by decide) (by decide)
  have e4 : dropS [(⟨#[97]⟩, 2), (⟨#[98]⟩, 1)] 0 = (0, [(⟨#[97]⟩, 1), (⟨#[98]⟩, 1)]) := by decide
  rw [e4] at c4 t4
  obtain ⟨m5, S5, c5, t5, k5⟩ := drop_tab t4 k4.wf 0 (by decide) (by decide)
  have e5 : dropS [(⟨#[97]⟩, 1), (⟨#[98]⟩, 1)] 0 = (0, [(emp, 0), (⟨#[98]⟩, 1)]) := by decide
  rw [e5] at c5 t5
  obtain ⟨m6, S6, c6, t6, k6⟩ := take_tab t5 k5.wf ⟨#[99]⟩ (by decide) (by decide)
  have e6 : takeS [(emp, 0), (⟨#[98]⟩, 1)] ⟨#[99]⟩ = ((0, 0), [(⟨#[99]⟩, 1), (⟨#[98]⟩, 1)]) := by decide
  rw [e6] at c6 t6
  refine does_of' Try.func7 rfl (by kernel_rfl) rfl Try.ntmps7 rfl rfl fun Q hQ => ?_
  have z0 : ((0 : Nat) : Int) = 0 := rfl
  have z1 : ((1 : Nat) : Int) = 1 := rfl
  repeat (first
      | refine tr_seq_k fun _ _ => ?_
      | (refine tr_region ?_; simp only [go_sem, List.getElem?_toArray, str_beq, reduceCtorEq, Nat.reduceEqDiff, Nat.reduceLT, Nat.reduceLeDiff, Nat.reduceAdd, Nat.reduceMul, Nat.reduceSub, Nat.reduceBEq, ↓reduceIte, bne_self_eq_false, Bool.and_false, Bool.false_and, Bool.true_or, Bool.false_or, z0, z1])
      | (refine call_givesW (c0) ?_; (try dsimp only); (try simp only [go_sem, List.getElem?_toArray, str_beq, reduceCtorEq, Nat.reduceEqDiff, Nat.reduceLT, Nat.reduceLeDiff, Nat.reduceAdd, Nat.reduceMul, Nat.reduceSub, Nat.reduceBEq, ↓reduceIte, bne_self_eq_false, Bool.and_false, Bool.false_and, Bool.true_or, Bool.false_or, z0, z1]))
      | (refine call_givesW (c1) ?_; (try dsimp only); (try simp only [go_sem, List.getElem?_toArray, str_beq, reduceCtorEq, Nat.reduceEqDiff, Nat.reduceLT, Nat.reduceLeDiff, Nat.reduceAdd, Nat.reduceMul, Nat.reduceSub, Nat.reduceBEq, ↓reduceIte, bne_self_eq_false, Bool.and_false, Bool.false_and, Bool.true_or, Bool.false_or, z0, z1]))
      | (refine call_givesW (c2) ?_; (try dsimp only); (try simp only [go_sem, List.getElem?_toArray, str_beq, reduceCtorEq, Nat.reduceEqDiff, Nat.reduceLT, Nat.reduceLeDiff, Nat.reduceAdd, Nat.reduceMul, Nat.reduceSub, Nat.reduceBEq, ↓reduceIte, bne_self_eq_false, Bool.and_false, Bool.false_and, Bool.true_or, Bool.false_or, z0, z1]))
      | (refine call_givesW (c3) ?_; (try dsimp only); (try simp only [go_sem, List.getElem?_toArray, str_beq, reduceCtorEq, Nat.reduceEqDiff, Nat.reduceLT, Nat.reduceLeDiff, Nat.reduceAdd, Nat.reduceMul, Nat.reduceSub, Nat.reduceBEq, ↓reduceIte, bne_self_eq_false, Bool.and_false, Bool.false_and, Bool.true_or, Bool.false_or, z0, z1]))
      | refine k_of (by assumption) ?_
      | refine tr_block ?_
      | refine tr_scope ?_
      | (refine tr_skip ?_; try simp only [ex_seq, ex_block])
      | (refine tr_label ?_; try simp only [ex_seq, ex_block])
      | (refine tr_exit ?_; try simp only [ex_seq_exit, ex_block_exit, Nat.reduceEqDiff, if_true, if_false, ex_seq, ex_block, reduceCtorEq, ↓reduceIte])
      | (refine tr_ret ?_; try simp only [ex_seq_ret, ex_block_ret]))
  refine tr_cond rfl (fun ht => ?_) (fun hf => ?_)
  · cases ht
  · repeat (first
        | refine tr_seq_k fun _ _ => ?_
        | (refine tr_region ?_; simp only [go_sem, List.getElem?_toArray, str_beq, reduceCtorEq, Nat.reduceEqDiff, Nat.reduceLT, Nat.reduceLeDiff, Nat.reduceAdd, Nat.reduceMul, Nat.reduceSub, Nat.reduceBEq, ↓reduceIte, bne_self_eq_false, Bool.and_false, Bool.false_and, Bool.true_or, Bool.false_or, z0, z1])
        | (refine call_givesW (c4) ?_; (try dsimp only); (try simp only [go_sem, List.getElem?_toArray, str_beq, reduceCtorEq, Nat.reduceEqDiff, Nat.reduceLT, Nat.reduceLeDiff, Nat.reduceAdd, Nat.reduceMul, Nat.reduceSub, Nat.reduceBEq, ↓reduceIte, bne_self_eq_false, Bool.and_false, Bool.false_and, Bool.true_or, Bool.false_or, z0, z1]))
        | (refine call_givesW (c5) ?_; (try dsimp only); (try simp only [go_sem, List.getElem?_toArray, str_beq, reduceCtorEq, Nat.reduceEqDiff, Nat.reduceLT, Nat.reduceLeDiff, Nat.reduceAdd, Nat.reduceMul, Nat.reduceSub, Nat.reduceBEq, ↓reduceIte, bne_self_eq_false, Bool.and_false, Bool.false_and, Bool.true_or, Bool.false_or, z0, z1]))
        | (refine call_givesW (c6) ?_; (try dsimp only); (try simp only [go_sem, List.getElem?_toArray, str_beq, reduceCtorEq, Nat.reduceEqDiff, Nat.reduceLT, Nat.reduceLeDiff, Nat.reduceAdd, Nat.reduceMul, Nat.reduceSub, Nat.reduceBEq, ↓reduceIte, bne_self_eq_false, Bool.and_false, Bool.false_and, Bool.true_or, Bool.false_or, z0, z1]))
        | refine k_of (by assumption) ?_
        | refine tr_block ?_
        | refine tr_scope ?_
        | (refine tr_skip ?_; try simp only [ex_seq, ex_block])
        | (refine tr_label ?_; try simp only [ex_seq, ex_block])
        | (refine tr_exit ?_; try simp only [ex_seq_exit, ex_block_exit, Nat.reduceEqDiff, if_true, if_false, ex_seq, ex_block, reduceCtorEq, ↓reduceIte])
        | (refine tr_ret ?_; try simp only [ex_seq_ret, ex_block_ret]))
    refine (hQ _ _ [bA true] ?_ (fun m => ?_)).2 <;> simp only [go_sem, List.getElem?_toArray, str_beq, reduceCtorEq, Nat.reduceEqDiff, Nat.reduceLT, Nat.reduceLeDiff, Nat.reduceAdd, Nat.reduceMul, Nat.reduceSub, Nat.reduceBEq, ↓reduceIte, bne_self_eq_false, Bool.and_false, Bool.false_and, Bool.true_or, Bool.false_or, Try.f7, z0]
end Go.Proofs.Ytlhlcfijpdknfaa

/-
  Chapter 2, the document's answer: a table in memory: New, has, Find, Len, Text, Uses.
-/
set_option linter.unusedSimpArgs false
set_option linter.unusedVariables false
namespace Go.Proofs.Ytlhlcfijpdknfaa
open Go.Vs Go.Vs.Ab Go.Vs.Hp Go.Vs.Tb
set_option maxRecDepth 100000
set_option maxHeartbeats 4000000

theorem st_hk (s : ByteArray) : (stC s).length = 1 := rfl
theorem st_get {L : List ByteArray} {i : Nat} (h : i < L.length) : (blC stC L)[i]? = some (sA L[i]) := by
  have := blC_get st_hk h (j := 0) (by decide)
  rw [Nat.mul_one, Nat.add_zero] at this
  exact this
theorem st_len (L : List ByteArray) : (blC stC L).length = L.length := by rw [len_blC st_hk, Nat.mul_one]
theorem st_set {L : List ByteArray} {i : Nat} (h : i < L.length) (x : ByteArray) : List.take i (blC stC L) ++ [sA x] ++ List.drop (i + 1) (blC stC L) = blC stC (L.set i x) := by
  have := set_blC (enc := stC) st_hk h x
  rw [Nat.mul_one] at this
  exact this
theorem st_idx {b n i : Nat} (h : i < n) : aIndexL Try.prog 54 (.lsl b 0 n 1) (iA i) = some (.ptr b i) := by
  have := idxL (P := Try.prog) (size := 1) Try.underlying54 sz9 (by decide) (b := b) (lo := 0) (ik := .i64) h
  simpa using this
theorem st_fit {L : List ByteArray} {i : Nat} (h : i < L.length) : (i + 1 ≤ (blC stC L).length) = True := eq_true (by rw [st_len]; omega)
theorem row_getG {T : Type} {enc : T → List CV} {size : Nat} {m : Mm} {c : AV} {l : List T} {s : List Nat} (h : RowAt m enc size c l s) {k : Nat} (hk : k < l.length) : ∃ h L, c = .lsl h 0 l.length size ∧ s = [h] ∧ m.hp[h]? = some ⟨false, blC enc L⟩ ∧ l = L.take l.length ∧ ∃ hkL : k < L.length, L[k] = l[k] := by
  rcases h with ⟨rfl, _⟩ | ⟨h, L, hc, hs, hL, hEL⟩
  · simp at hk
  · have hle : l.length ≤ L.length := by
      have := congrArg List.length hEL
      rw [List.length_take] at this
      omega
    exact ⟨h, L, hc, hs, hL, hEL, by omega, (take_get hEL hk _).symm⟩

def txE (E : List Ent) : List ByteArray := E.map Prod.fst
def usE (E : List Ent) : List Int := E.map fun e => (e.2 : Int)
theorem txE_len (E : List Ent) : (txE E).length = E.length := by simp [txE]
theorem usE_len (E : List Ent) : (usE E).length = E.length := by simp [usE]
theorem txE_get {E : List Ent} {k : Nat} (h : k < (txE E).length) : (txE E)[k] = (E[k]'(by rw [txE_len] at h; exact h)).1 := by simp [txE]
theorem usE_get {E : List Ent} {k : Nat} (h : k < (usE E).length) : (usE E)[k] = ((E[k]'(by rw [usE_len] at h; exact h)).2 : Int) := by simp [usE]

/-- The document's table in memory. -/
def RefM (m : Mm) (b : Nat) (E : List Ent) (S : List Nat) : Prop := ∃ c1 c2 s1 s2, m.hp[b]? = some ⟨false, [c1, c2]⟩ ∧ RowAt m stC 1 c1 (txE E) s1 ∧ RowAt m inC 1 c2 (usE E) s2 ∧ S = b :: (s1 ++ s2) ∧ S.Nodup
theorem RefM.keep {m m' : Mm} {S S' : List Nat} (k : Kp m m' S S') {b : Nat} {E : List Ent} {T : List Nat} (h : RefM m b E T) (hd : ∀ i ∈ T, i ∉ S) : RefM m' b E T := by
  obtain ⟨c1, c2, s1, s2, h1, h2, h3, h6, h7⟩ := h
  subst h6
  exact ⟨c1, c2, s1, s2, k.old b _ (hd b (by simp)) h1, h2.keep k (fun i hi => hd i (by simp [hi])), h3.keep k (fun i hi => hd i (by simp [hi])), rfl, h7⟩
theorem RefM.lt {m : Mm} {b : Nat} {E : List Ent} {T : List Nat} (h : RefM m b E T) : b < m.hp.length := by
  obtain ⟨c1, c2, s1, s2, h1, _⟩ := h
  exact (List.getElem?_eq_some_iff.1 h1).1

theorem rnew_gives {m : Mm} (hW : Wf m) : ∃ m' b S, GivesW Try.prog 19 [] m (.ptr b 0) m' ∧ RefM m' b [] S ∧ Kp m m' [] S := by
  refine ⟨⟨m.hp ++ [⟨false, [.c (.sl true 0 []), .c (.sl true 0 [])]⟩], m.hw⟩, m.hp.length, [m.hp.length], ?_, ?_, ?_⟩
  · refine givesW_of' Try.func19 rfl (by kernel_rfl) Try.ntmps19 rfl rfl fun Q hQ => ?_
    repeat (first
        | refine tr_seq_k fun _ _ => ?_
        | (refine tr_region ?_; simp only [go_sem, List.getElem?_toArray, str_beq, reduceCtorEq, Nat.reduceEqDiff, Nat.reduceLT, Nat.reduceLeDiff, Nat.reduceAdd, Nat.reduceMul, Nat.reduceSub, Nat.reduceBEq, ↓reduceIte, bne_self_eq_false, Bool.and_false, Bool.false_and, Bool.true_or, Bool.false_or])
        | refine k_of (by assumption) ?_
        | refine tr_block ?_
        | refine tr_scope ?_
        | (refine tr_skip ?_; try simp only [ex_seq, ex_block])
        | (refine tr_label ?_; try simp only [ex_seq, ex_block])
        | (refine tr_exit ?_; try simp only [ex_seq_exit, ex_block_exit, Nat.reduceEqDiff, if_true, if_false, ex_seq, ex_block, reduceCtorEq, ↓reduceIte])
        | (refine tr_ret ?_; try simp only [ex_seq_ret, ex_block_ret]))
    refine (hQ _ _ [.ptr m.hp.length 0] ?_ rfl rfl).2 <;> simp only [go_sem, List.getElem?_toArray, str_beq, reduceCtorEq, Nat.reduceEqDiff, Nat.reduceLT, Nat.reduceLeDiff, Nat.reduceAdd, Nat.reduceMul, Nat.reduceSub, Nat.reduceBEq, ↓reduceIte, bne_self_eq_false, Bool.and_false, Bool.false_and, Bool.true_or, Bool.false_or, Try.f19]
  · refine ⟨.c (.sl true 0 []), .c (.sl true 0 []), [], [], ?_, Or.inl ⟨rfl, rfl, rfl⟩, Or.inl ⟨rfl, rfl, rfl⟩, rfl, by simp⟩
    simp
  · refine ⟨rfl, by simp, fun i blk _ h => ?_, fun i h => Or.inr (by simp at h; omega), hW.add rfl⟩
    have := (List.getElem?_eq_some_iff.1 h).1
    rw [List.getElem?_append_left this]
    exact h

theorem rhas_gives {m : Mm} {b : Nat} {E : List Ent} {S : List Nat} (h : RefM m b E S) (n : Int) : GivesW Try.prog 36 [.ptr b 0, iA n] m (bA (hasS E n)) m := by
  obtain ⟨c1, c2, s1, s2, hb, hT, hU, hS, hnd⟩ := h
  have p1 := hT.plain1
  cases h0 : decide ((0 : Int) ≤ n) with
  | false =>
    have hr : hasS E n = false := by unfold hasS; rw [h0]; rfl
    refine givesW_of' Try.func36 rfl (by kernel_rfl) Try.ntmps36 rfl rfl fun Q hQ => ?_
    repeat (first
        | refine tr_seq_k fun _ _ => ?_
        | (refine tr_region ?_; simp only [go_sem, List.getElem?_toArray, str_beq, reduceCtorEq, Nat.reduceEqDiff, Nat.reduceLT, Nat.reduceLeDiff, Nat.reduceAdd, Nat.reduceMul, Nat.reduceSub, Nat.reduceBEq, ↓reduceIte, bne_self_eq_false, Bool.and_false, Bool.false_and, Bool.true_or, Bool.false_or, hb, h0, p1])
        | refine k_of (by assumption) ?_
        | refine tr_block ?_
        | refine tr_scope ?_
        | (refine tr_skip ?_; try simp only [ex_seq, ex_block])
        | (refine tr_label ?_; try simp only [ex_seq, ex_block])
        | (refine tr_exit ?_; try simp only [ex_seq_exit, ex_block_exit, Nat.reduceEqDiff, if_true, if_false, ex_seq, ex_block, reduceCtorEq, ↓reduceIte])
        | (refine tr_ret ?_; try simp only [ex_seq_ret, ex_block_ret]))
    refine (hQ _ _ [bA false] ?_ (by rw [hr]; rfl) rfl).2 <;> simp only [go_sem, List.getElem?_toArray, str_beq, reduceCtorEq, Nat.reduceEqDiff, Nat.reduceLT, Nat.reduceLeDiff, Nat.reduceAdd, Nat.reduceMul, Nat.reduceSub, Nat.reduceBEq, ↓reduceIte, bne_self_eq_false, Bool.and_false, Bool.false_and, Bool.true_or, Bool.false_or, Try.f36]
  | true =>
    obtain ⟨k, rfl⟩ : ∃ k : Nat, n = (k : Int) := ⟨n.toNat, by have := of_decide_eq_true h0; omega⟩
    by_cases hk : k < E.length
    · obtain ⟨h, L, rfl, _, hL, hEL, hkL, hg⟩ := row_getG hT (k := k) (by rw [txE_len]; exact hk)
      have h1 : decide ((k : Int) < (((txE E).length : Nat) : Int)) = true := decide_eq_true (by rw [txE_len]; omega)
      have hr : hasS E (k : Int) = !decide (L[k] = ⟨#[]⟩) := by
        unfold hasS
        rw [h0, Int.toNat_natCast, List.getElem?_eq_getElem hk, hg, txE_get]
        rfl
      have i1 := st_idx (b := h) (n := (txE E).length) (i := k) (by rw [txE_len]; exact hk)
      have g1 := st_get hkL
      refine givesW_of' Try.func36 rfl (by kernel_rfl) Try.ntmps36 rfl rfl fun Q hQ => ?_
      repeat (first
          | refine tr_seq_k fun _ _ => ?_
          | (refine tr_region ?_; simp only [go_sem, List.getElem?_toArray, str_beq, reduceCtorEq, Nat.reduceEqDiff, Nat.reduceLT, Nat.reduceLeDiff, Nat.reduceAdd, Nat.reduceMul, Nat.reduceSub, Nat.reduceBEq, ↓reduceIte, bne_self_eq_false, Bool.and_false, Bool.false_and, Bool.true_or, Bool.false_or, hb, h0, h1, hL, i1, g1])
          | refine k_of (by assumption) ?_
          | refine tr_block ?_
          | refine tr_scope ?_
          | (refine tr_skip ?_; try simp only [ex_seq, ex_block])
          | (refine tr_label ?_; try simp only [ex_seq, ex_block])
          | (refine tr_exit ?_; try simp only [ex_seq_exit, ex_block_exit, Nat.reduceEqDiff, if_true, if_false, ex_seq, ex_block, reduceCtorEq, ↓reduceIte])
          | (refine tr_ret ?_; try simp only [ex_seq_ret, ex_block_ret]))
      refine (hQ _ _ [bA (!decide (L[k] = ⟨#[]⟩))] ?_ (by rw [hr]; rfl) rfl).2 <;> simp only [go_sem, List.getElem?_toArray, str_beq, reduceCtorEq, Nat.reduceEqDiff, Nat.reduceLT, Nat.reduceLeDiff, Nat.reduceAdd, Nat.reduceMul, Nat.reduceSub, Nat.reduceBEq, ↓reduceIte, bne_self_eq_false, Bool.and_false, Bool.false_and, Bool.true_or, Bool.false_or, Try.f36]
    · have h1 : decide ((k : Int) < (((txE E).length : Nat) : Int)) = false := decide_eq_false (by rw [txE_len]; omega)
      have hr : hasS E (k : Int) = false := by
        unfold hasS
        rw [Int.toNat_natCast, List.getElem?_eq_none (by omega)]
        simp
      rcases slV_row hT with ⟨cs, hv, hv2⟩ | ⟨b', hv, hv2⟩
      · refine givesW_of' Try.func36 rfl (by kernel_rfl) Try.ntmps36 rfl rfl fun Q hQ => ?_
        repeat (first
            | refine tr_seq_k fun _ _ => ?_
            | (refine tr_region ?_; simp only [go_sem, List.getElem?_toArray, str_beq, reduceCtorEq, Nat.reduceEqDiff, Nat.reduceLT, Nat.reduceLeDiff, Nat.reduceAdd, Nat.reduceMul, Nat.reduceSub, Nat.reduceBEq, ↓reduceIte, bne_self_eq_false, Bool.and_false, Bool.false_and, Bool.true_or, Bool.false_or, hb, h0, p1, h1, hv, hv2])
            | refine k_of (by assumption) ?_
            | refine tr_block ?_
            | refine tr_scope ?_
            | (refine tr_skip ?_; try simp only [ex_seq, ex_block])
            | (refine tr_label ?_; try simp only [ex_seq, ex_block])
            | (refine tr_exit ?_; try simp only [ex_seq_exit, ex_block_exit, Nat.reduceEqDiff, if_true, if_false, ex_seq, ex_block, reduceCtorEq, ↓reduceIte])
            | (refine tr_ret ?_; try simp only [ex_seq_ret, ex_block_ret]))
        refine (hQ _ _ [bA false] ?_ (by rw [hr]; rfl) rfl).2 <;> simp only [go_sem, List.getElem?_toArray, str_beq, reduceCtorEq, Nat.reduceEqDiff, Nat.reduceLT, Nat.reduceLeDiff, Nat.reduceAdd, Nat.reduceMul, Nat.reduceSub, Nat.reduceBEq, ↓reduceIte, bne_self_eq_false, Bool.and_false, Bool.false_and, Bool.true_or, Bool.false_or, Try.f36]
      · refine givesW_of' Try.func36 rfl (by kernel_rfl) Try.ntmps36 rfl rfl fun Q hQ => ?_
        repeat (first
            | refine tr_seq_k fun _ _ => ?_
            | (refine tr_region ?_; simp only [go_sem, List.getElem?_toArray, str_beq, reduceCtorEq, Nat.reduceEqDiff, Nat.reduceLT, Nat.reduceLeDiff, Nat.reduceAdd, Nat.reduceMul, Nat.reduceSub, Nat.reduceBEq, ↓reduceIte, bne_self_eq_false, Bool.and_false, Bool.false_and, Bool.true_or, Bool.false_or, hb, h0, p1, h1, hv, hv2])
            | refine k_of (by assumption) ?_
            | refine tr_block ?_
            | refine tr_scope ?_
            | (refine tr_skip ?_; try simp only [ex_seq, ex_block])
            | (refine tr_label ?_; try simp only [ex_seq, ex_block])
            | (refine tr_exit ?_; try simp only [ex_seq_exit, ex_block_exit, Nat.reduceEqDiff, if_true, if_false, ex_seq, ex_block, reduceCtorEq, ↓reduceIte])
            | (refine tr_ret ?_; try simp only [ex_seq_ret, ex_block_ret]))
        refine (hQ _ _ [bA false] ?_ (by rw [hr]; rfl) rfl).2 <;> simp only [go_sem, List.getElem?_toArray, str_beq, reduceCtorEq, Nat.reduceEqDiff, Nat.reduceLT, Nat.reduceLeDiff, Nat.reduceAdd, Nat.reduceMul, Nat.reduceSub, Nat.reduceBEq, ↓reduceIte, bne_self_eq_false, Bool.and_false, Bool.false_and, Bool.true_or, Bool.false_or, Try.f36]

theorem rtext_gives {m : Mm} {b : Nat} {E : List Ent} {S : List Nat} (h : RefM m b E S) (n : Int) : GivesW Try.prog 22 [.ptr b 0, iA n] m (.tup [sA (textS E n), iA (if hasS E n then 0 else 13)]) m := by
  have hh := rhas_gives h n
  obtain ⟨c1, c2, s1, s2, hb, hT, hU, hS, hnd⟩ := h
  have p1 := hT.plain1
  cases h0 : hasS E n with
  | false =>
    rw [h0] at hh
    have hr : textS E n = emp := by unfold textS; rw [h0]; rfl
    rw [hr]
    refine givesW_of' Try.func22 rfl (by kernel_rfl) Try.ntmps22 rfl rfl fun Q hQ => ?_
    repeat (first
        | refine tr_seq_k fun _ _ => ?_
        | (refine tr_region ?_; simp only [go_sem, List.getElem?_toArray, str_beq, reduceCtorEq, Nat.reduceEqDiff, Nat.reduceLT, Nat.reduceLeDiff, Nat.reduceAdd, Nat.reduceMul, Nat.reduceSub, Nat.reduceBEq, ↓reduceIte, bne_self_eq_false, Bool.and_false, Bool.false_and, Bool.true_or, Bool.false_or])
        | (refine call_givesW (hh) ?_; (try dsimp only); (try simp only [go_sem, List.getElem?_toArray, str_beq, reduceCtorEq, Nat.reduceEqDiff, Nat.reduceLT, Nat.reduceLeDiff, Nat.reduceAdd, Nat.reduceMul, Nat.reduceSub, Nat.reduceBEq, ↓reduceIte, bne_self_eq_false, Bool.and_false, Bool.false_and, Bool.true_or, Bool.false_or]))
        | refine k_of (by assumption) ?_
        | refine tr_block ?_
        | refine tr_scope ?_
        | (refine tr_skip ?_; try simp only [ex_seq, ex_block])
        | (refine tr_label ?_; try simp only [ex_seq, ex_block])
        | (refine tr_exit ?_; try simp only [ex_seq_exit, ex_block_exit, Nat.reduceEqDiff, if_true, if_false, ex_seq, ex_block, reduceCtorEq, ↓reduceIte])
        | (refine tr_ret ?_; try simp only [ex_seq_ret, ex_block_ret]))
    refine tr_cond rfl (fun ht => ?_) (fun hf => ?_)
    · repeat (first
          | refine tr_seq_k fun _ _ => ?_
          | (refine tr_region ?_; simp only [go_sem, List.getElem?_toArray, str_beq, reduceCtorEq, Nat.reduceEqDiff, Nat.reduceLT, Nat.reduceLeDiff, Nat.reduceAdd, Nat.reduceMul, Nat.reduceSub, Nat.reduceBEq, ↓reduceIte, bne_self_eq_false, Bool.and_false, Bool.false_and, Bool.true_or, Bool.false_or])
          | refine k_of (by assumption) ?_
          | refine tr_block ?_
          | refine tr_scope ?_
          | (refine tr_skip ?_; try simp only [ex_seq, ex_block])
          | (refine tr_label ?_; try simp only [ex_seq, ex_block])
          | (refine tr_exit ?_; try simp only [ex_seq_exit, ex_block_exit, Nat.reduceEqDiff, if_true, if_false, ex_seq, ex_block, reduceCtorEq, ↓reduceIte])
          | (refine tr_ret ?_; try simp only [ex_seq_ret, ex_block_ret]))
      refine (hQ _ _ [sA ⟨#[]⟩, iA 13] ?_ rfl rfl).2 <;> simp only [go_sem, List.getElem?_toArray, str_beq, reduceCtorEq, Nat.reduceEqDiff, Nat.reduceLT, Nat.reduceLeDiff, Nat.reduceAdd, Nat.reduceMul, Nat.reduceSub, Nat.reduceBEq, ↓reduceIte, bne_self_eq_false, Bool.and_false, Bool.false_and, Bool.true_or, Bool.false_or, Try.f22]
    · cases hf
  | true =>
    rw [h0] at hh
    obtain ⟨k, rfl, hk, hne⟩ := hasS_spec h0
    obtain ⟨h, L, rfl, _, hL, hEL, hkL, hg⟩ := row_getG hT (k := k) (by rw [txE_len]; exact hk)
    have hr : textS E (k : Int) = L[k] := by
      unfold textS
      rw [h0, if_pos rfl, Int.toNat_natCast, getD_at hk, hg, txE_get]
    rw [hr]
    have i1 := st_idx (b := h) (n := (txE E).length) (i := k) (by rw [txE_len]; exact hk)
    have g1 := st_get hkL
    refine givesW_of' Try.func22 rfl (by kernel_rfl) Try.ntmps22 rfl rfl fun Q hQ => ?_
    repeat (first
        | refine tr_seq_k fun _ _ => ?_
        | (refine tr_region ?_; simp only [go_sem, List.getElem?_toArray, str_beq, reduceCtorEq, Nat.reduceEqDiff, Nat.reduceLT, Nat.reduceLeDiff, Nat.reduceAdd, Nat.reduceMul, Nat.reduceSub, Nat.reduceBEq, ↓reduceIte, bne_self_eq_false, Bool.and_false, Bool.false_and, Bool.true_or, Bool.false_or])
        | (refine call_givesW (hh) ?_; (try dsimp only); (try simp only [go_sem, List.getElem?_toArray, str_beq, reduceCtorEq, Nat.reduceEqDiff, Nat.reduceLT, Nat.reduceLeDiff, Nat.reduceAdd, Nat.reduceMul, Nat.reduceSub, Nat.reduceBEq, ↓reduceIte, bne_self_eq_false, Bool.and_false, Bool.false_and, Bool.true_or, Bool.false_or]))
        | refine k_of (by assumption) ?_
        | refine tr_block ?_
        | refine tr_scope ?_
        | (refine tr_skip ?_; try simp only [ex_seq, ex_block])
        | (refine tr_label ?_; try simp only [ex_seq, ex_block])
        | (refine tr_exit ?_; try simp only [ex_seq_exit, ex_block_exit, Nat.reduceEqDiff, if_true, if_false, ex_seq, ex_block, reduceCtorEq, ↓reduceIte])
        | (refine tr_ret ?_; try simp only [ex_seq_ret, ex_block_ret]))
    refine tr_cond rfl (fun ht => ?_) (fun hf => ?_)
    · cases ht
    · repeat (first
          | refine tr_seq_k fun _ _ => ?_
          | (refine tr_region ?_; simp only [go_sem, List.getElem?_toArray, str_beq, reduceCtorEq, Nat.reduceEqDiff, Nat.reduceLT, Nat.reduceLeDiff, Nat.reduceAdd, Nat.reduceMul, Nat.reduceSub, Nat.reduceBEq, ↓reduceIte, bne_self_eq_false, Bool.and_false, Bool.false_and, Bool.true_or, Bool.false_or, hb, p1, hL, i1, g1])
          | refine k_of (by assumption) ?_
          | refine tr_block ?_
          | refine tr_scope ?_
          | (refine tr_skip ?_; try simp only [ex_seq, ex_block])
          | (refine tr_label ?_; try simp only [ex_seq, ex_block])
          | (refine tr_exit ?_; try simp only [ex_seq_exit, ex_block_exit, Nat.reduceEqDiff, if_true, if_false, ex_seq, ex_block, reduceCtorEq, ↓reduceIte])
          | (refine tr_ret ?_; try simp only [ex_seq_ret, ex_block_ret]))
      refine (hQ _ _ [sA L[k], iA 0] ?_ rfl rfl).2 <;> simp only [go_sem, List.getElem?_toArray, str_beq, reduceCtorEq, Nat.reduceEqDiff, Nat.reduceLT, Nat.reduceLeDiff, Nat.reduceAdd, Nat.reduceMul, Nat.reduceSub, Nat.reduceBEq, ↓reduceIte, bne_self_eq_false, Bool.and_false, Bool.false_and, Bool.true_or, Bool.false_or, Try.f22]
theorem ruses_gives {m : Mm} {b : Nat} {E : List Ent} {S : List Nat} (h : RefM m b E S) (n : Int) : GivesW Try.prog 25 [.ptr b 0, iA n] m (iA (usesS E n : Nat)) m := by
  have hh := rhas_gives h n
  obtain ⟨c1, c2, s1, s2, hb, hT, hU, hS, hnd⟩ := h
  have p1 := hT.plain1
  cases h0 : hasS E n with
  | false =>
    rw [h0] at hh
    have hr : usesS E n = 0 := by unfold usesS; rw [h0]; rfl
    rw [hr]
    refine givesW_of' Try.func25 rfl (by kernel_rfl) Try.ntmps25 rfl rfl fun Q hQ => ?_
    repeat (first
        | refine tr_seq_k fun _ _ => ?_
        | (refine tr_region ?_; simp only [go_sem, List.getElem?_toArray, str_beq, reduceCtorEq, Nat.reduceEqDiff, Nat.reduceLT, Nat.reduceLeDiff, Nat.reduceAdd, Nat.reduceMul, Nat.reduceSub, Nat.reduceBEq, ↓reduceIte, bne_self_eq_false, Bool.and_false, Bool.false_and, Bool.true_or, Bool.false_or])
        | (refine call_givesW (hh) ?_; (try dsimp only); (try simp only [go_sem, List.getElem?_toArray, str_beq, reduceCtorEq, Nat.reduceEqDiff, Nat.reduceLT, Nat.reduceLeDiff, Nat.reduceAdd, Nat.reduceMul, Nat.reduceSub, Nat.reduceBEq, ↓reduceIte, bne_self_eq_false, Bool.and_false, Bool.false_and, Bool.true_or, Bool.false_or]))
        | refine k_of (by assumption) ?_
        | refine tr_block ?_
        | refine tr_scope ?_
        | (refine tr_skip ?_; try simp only [ex_seq, ex_block])
        | (refine tr_label ?_; try simp only [ex_seq, ex_block])
        | (refine tr_exit ?_; try simp only [ex_seq_exit, ex_block_exit, Nat.reduceEqDiff, if_true, if_false, ex_seq, ex_block, reduceCtorEq, ↓reduceIte])
        | (refine tr_ret ?_; try simp only [ex_seq_ret, ex_block_ret]))
    refine tr_cond rfl (fun ht => ?_) (fun hf => ?_)
    · repeat (first
          | refine tr_seq_k fun _ _ => ?_
          | (refine tr_region ?_; simp only [go_sem, List.getElem?_toArray, str_beq, reduceCtorEq, Nat.reduceEqDiff, Nat.reduceLT, Nat.reduceLeDiff, Nat.reduceAdd, Nat.reduceMul, Nat.reduceSub, Nat.reduceBEq, ↓reduceIte, bne_self_eq_false, Bool.and_false, Bool.false_and, Bool.true_or, Bool.false_or])
          | refine k_of (by assumption) ?_
          | refine tr_block ?_
          | refine tr_scope ?_
          | (refine tr_skip ?_; try simp only [ex_seq, ex_block])
          | (refine tr_label ?_; try simp only [ex_seq, ex_block])
          | (refine tr_exit ?_; try simp only [ex_seq_exit, ex_block_exit, Nat.reduceEqDiff, if_true, if_false, ex_seq, ex_block, reduceCtorEq, ↓reduceIte])
          | (refine tr_ret ?_; try simp only [ex_seq_ret, ex_block_ret]))
      refine (hQ _ _ [iA 0] ?_ rfl rfl).2 <;> simp only [go_sem, List.getElem?_toArray, str_beq, reduceCtorEq, Nat.reduceEqDiff, Nat.reduceLT, Nat.reduceLeDiff, Nat.reduceAdd, Nat.reduceMul, Nat.reduceSub, Nat.reduceBEq, ↓reduceIte, bne_self_eq_false, Bool.and_false, Bool.false_and, Bool.true_or, Bool.false_or, Try.f25]
    · cases hf
  | true =>
    rw [h0] at hh
    obtain ⟨k, rfl, hk, hne⟩ := hasS_spec h0
    obtain ⟨h, L, rfl, _, hL, hEL, hkL, hg⟩ := row_getG hU (k := k) (by rw [usE_len]; exact hk)
    have hr : ((usesS E (k : Int) : Nat) : Int) = L[k] := by
      unfold usesS
      rw [h0, if_pos rfl, Int.toNat_natCast, getD_at hk, hg, usE_get]
    rw [hr]
    have i1 := in_idx Try.underlying55 (b := h) (n := (usE E).length) (i := k) (by rw [usE_len]; exact hk)
    have g1 := in_get hkL
    refine givesW_of' Try.func25 rfl (by kernel_rfl) Try.ntmps25 rfl rfl fun Q hQ => ?_
    repeat (first
        | refine tr_seq_k fun _ _ => ?_
        | (refine tr_region ?_; simp only [go_sem, List.getElem?_toArray, str_beq, reduceCtorEq, Nat.reduceEqDiff, Nat.reduceLT, Nat.reduceLeDiff, Nat.reduceAdd, Nat.reduceMul, Nat.reduceSub, Nat.reduceBEq, ↓reduceIte, bne_self_eq_false, Bool.and_false, Bool.false_and, Bool.true_or, Bool.false_or])
        | (refine call_givesW (hh) ?_; (try dsimp only); (try simp only [go_sem, List.getElem?_toArray, str_beq, reduceCtorEq, Nat.reduceEqDiff, Nat.reduceLT, Nat.reduceLeDiff, Nat.reduceAdd, Nat.reduceMul, Nat.reduceSub, Nat.reduceBEq, ↓reduceIte, bne_self_eq_false, Bool.and_false, Bool.false_and, Bool.true_or, Bool.false_or]))
        | refine k_of (by assumption) ?_
        | refine tr_block ?_
        | refine tr_scope ?_
        | (refine tr_skip ?_; try simp only [ex_seq, ex_block])
        | (refine tr_label ?_; try simp only [ex_seq, ex_block])
        | (refine tr_exit ?_; try simp only [ex_seq_exit, ex_block_exit, Nat.reduceEqDiff, if_true, if_false, ex_seq, ex_block, reduceCtorEq, ↓reduceIte])
        | (refine tr_ret ?_; try simp only [ex_seq_ret, ex_block_ret]))
    refine tr_cond rfl (fun ht => ?_) (fun hf => ?_)
    · cases ht
    · repeat (first
          | refine tr_seq_k fun _ _ => ?_
          | (refine tr_region ?_; simp only [go_sem, List.getElem?_toArray, str_beq, reduceCtorEq, Nat.reduceEqDiff, Nat.reduceLT, Nat.reduceLeDiff, Nat.reduceAdd, Nat.reduceMul, Nat.reduceSub, Nat.reduceBEq, ↓reduceIte, bne_self_eq_false, Bool.and_false, Bool.false_and, Bool.true_or, Bool.false_or, hb, p1, hL, i1, g1])
          | refine k_of (by assumption) ?_
          | refine tr_block ?_
          | refine tr_scope ?_
          | (refine tr_skip ?_; try simp only [ex_seq, ex_block])
          | (refine tr_label ?_; try simp only [ex_seq, ex_block])
          | (refine tr_exit ?_; try simp only [ex_seq_exit, ex_block_exit, Nat.reduceEqDiff, if_true, if_false, ex_seq, ex_block, reduceCtorEq, ↓reduceIte])
          | (refine tr_ret ?_; try simp only [ex_seq_ret, ex_block_ret]))
      refine (hQ _ _ [iA L[k]] ?_ rfl rfl).2 <;> simp only [go_sem, List.getElem?_toArray, str_beq, reduceCtorEq, Nat.reduceEqDiff, Nat.reduceLT, Nat.reduceLeDiff, Nat.reduceAdd, Nat.reduceMul, Nat.reduceSub, Nat.reduceBEq, ↓reduceIte, bne_self_eq_false, Bool.and_false, Bool.false_and, Bool.true_or, Bool.false_or, Try.f25]

theorem rfind_gives {m : Mm} {b : Nat} {E : List Ent} {S : List Nat} (h : RefM m b E S) (hW : Wf m) (hM : E.length ≤ 1000) (s : ByteArray) : GivesW Try.prog 23 [.ptr b 0, sA s] m (.tup [iA ((findS E s).getD 0 : Nat), bA (findS E s).isSome]) m := by
  have hlt := h.lt
  obtain ⟨c1, c2, s1, s2, hb, hT, hU, hS, hnd⟩ := h
  have p1 := hT.plain1
  refine givesW_of' Try.func23 rfl (by kernel_rfl) Try.ntmps23 rfl rfl fun Q hQ => ?_
  repeat (first
      | refine tr_seq_k fun _ _ => ?_
      | (refine tr_region ?_; simp only [go_sem, List.getElem?_toArray, str_beq, reduceCtorEq, Nat.reduceEqDiff, Nat.reduceLT, Nat.reduceLeDiff, Nat.reduceAdd, Nat.reduceMul, Nat.reduceSub, Nat.reduceBEq, ↓reduceIte, bne_self_eq_false, Bool.and_false, Bool.false_and, Bool.true_or, Bool.false_or])
      | refine k_of (by assumption) ?_
      | refine tr_block ?_
      | refine tr_scope ?_
      | (refine tr_skip ?_; try simp only [ex_seq, ex_block])
      | (refine tr_label ?_; try simp only [ex_seq, ex_block])
      | (refine tr_exit ?_; try simp only [ex_seq_exit, ex_block_exit, Nat.reduceEqDiff, if_true, if_false, ex_seq, ex_block, reduceCtorEq, ↓reduceIte])
      | (refine tr_ret ?_; try simp only [ex_seq_ret, ex_block_ret]))
  refine tr_loop_k (σ := Nat) (fun k => [(0, .ptr b 0), (1, sA s), (6, iA k)]) (fun _ => m) (fun k => k ≤ E.length ∧ ∀ j (hj : j < k) (hE : j < E.length), s = emp ∨ (E[j]).1 ≠ s) (fun k => E.length - k) 0 ⟨Nat.zero_le _, fun j hj => absurd hj (Nat.not_lt_zero _)⟩ ⟨rfl, rfl, rfl, trivial⟩ rfl ?_
  rintro k ⟨hk, hI⟩ K hK
  by_cases hkl : k < E.length
  · obtain ⟨h, L, rfl, _, hL, hEL, hkL, hg⟩ := row_getG hT (k := k) (by rw [txE_len]; exact hkl)
    have h1 : decide ((k : Int) < (((txE E).length : Nat) : Int)) = true := decide_eq_true (by rw [txE_len]; omega)
    have i1 := st_idx (b := h) (n := (txE E).length) (i := k) (by rw [txE_len]; exact hkl)
    have g1 := st_get hkL
    have ws := wrap_succ (show k ≤ 1000000000 by omega)
    have hge : (E[k]).1 = L[k] := by rw [hg, txE_get]
    repeat (first
        | refine tr_seq_k fun _ _ => ?_
        | (refine tr_region ?_; simp only [go_sem, List.getElem?_toArray, str_beq, reduceCtorEq, Nat.reduceEqDiff, Nat.reduceLT, Nat.reduceLeDiff, Nat.reduceAdd, Nat.reduceMul, Nat.reduceSub, Nat.reduceBEq, ↓reduceIte, bne_self_eq_false, Bool.and_false, Bool.false_and, Bool.true_or, Bool.false_or, hb, h1])
        | refine k_of (by assumption) ?_
        | refine tr_block ?_
        | refine tr_scope ?_
        | (refine tr_skip ?_; try simp only [ex_seq, ex_block])
        | (refine tr_label ?_; try simp only [ex_seq, ex_block])
        | (refine tr_exit ?_; try simp only [ex_seq_exit, ex_block_exit, Nat.reduceEqDiff, if_true, if_false, ex_seq, ex_block, reduceCtorEq, ↓reduceIte])
        | (refine tr_ret ?_; try simp only [ex_seq_ret, ex_block_ret]))
    refine tr_cond rfl (fun ht => ?_) (fun hf => ?_)
    · cases h2 : decide (s = ⟨#[]⟩) with
      | true =>
        have h2' : s = emp := of_decide_eq_true h2
        repeat (first
            | refine tr_seq_k fun _ _ => ?_
            | (refine tr_region ?_; simp only [go_sem, List.getElem?_toArray, str_beq, reduceCtorEq, Nat.reduceEqDiff, Nat.reduceLT, Nat.reduceLeDiff, Nat.reduceAdd, Nat.reduceMul, Nat.reduceSub, Nat.reduceBEq, ↓reduceIte, bne_self_eq_false, Bool.and_false, Bool.false_and, Bool.true_or, Bool.false_or, hb, h1, h2])
            | refine k_of (by assumption) ?_
            | refine tr_block ?_
            | refine tr_scope ?_
            | (refine tr_skip ?_; try simp only [ex_seq, ex_block])
            | (refine tr_label ?_; try simp only [ex_seq, ex_block])
            | (refine tr_exit ?_; try simp only [ex_seq_exit, ex_block_exit, Nat.reduceEqDiff, if_true, if_false, ex_seq, ex_block, reduceCtorEq, ↓reduceIte])
            | (refine tr_ret ?_; try simp only [ex_seq_ret, ex_block_ret]))
        refine tr_cond rfl (fun ht => ?_) (fun hf => ?_)
        · cases ht
        · repeat (first
              | refine tr_seq_k fun _ _ => ?_
              | (refine tr_region ?_; simp only [go_sem, List.getElem?_toArray, str_beq, reduceCtorEq, Nat.reduceEqDiff, Nat.reduceLT, Nat.reduceLeDiff, Nat.reduceAdd, Nat.reduceMul, Nat.reduceSub, Nat.reduceBEq, ↓reduceIte, bne_self_eq_false, Bool.and_false, Bool.false_and, Bool.true_or, Bool.false_or, ws])
              | refine k_of (by assumption) ?_
              | refine tr_block ?_
              | refine tr_scope ?_
              | (refine tr_skip ?_; try simp only [ex_seq, ex_block])
              | (refine tr_label ?_; try simp only [ex_seq, ex_block])
              | (refine tr_exit ?_; try simp only [ex_seq_exit, ex_block_exit, Nat.reduceEqDiff, if_true, if_false, ex_seq, ex_block, reduceCtorEq, ↓reduceIte])
              | (refine tr_ret ?_; try simp only [ex_seq_ret, ex_block_ret]))
          exact hK (k + 1) _ _ ⟨hkl, fun j hj hE => Or.inl h2'⟩ ⟨⟨rfl, rfl, rfl, trivial⟩, Keep.refl _, by simp only [lowF, low, Bool.and_true, Bool.true_and, Nat.blt_eq]; exact hlt, hW, Nat.le_refl _, Nat.le_refl _⟩ (by omega)
      | false =>
        have h2' : s ≠ emp := of_decide_eq_false h2
        cases h3 : decide (L[k] = s) with
        | true =>
          have h3' := of_decide_eq_true h3
          have hr : findS E s = some k := findS_of h2' hkl (by rw [hge]; exact h3') (fun j hj => (hI j hj (by omega)).resolve_left h2')
          repeat (first
              | refine tr_seq_k fun _ _ => ?_
              | (refine tr_region ?_; simp only [go_sem, List.getElem?_toArray, str_beq, reduceCtorEq, Nat.reduceEqDiff, Nat.reduceLT, Nat.reduceLeDiff, Nat.reduceAdd, Nat.reduceMul, Nat.reduceSub, Nat.reduceBEq, ↓reduceIte, bne_self_eq_false, Bool.and_false, Bool.false_and, Bool.true_or, Bool.false_or, hb, h1, h2, hL, i1, g1, h3])
              | refine k_of (by assumption) ?_
              | refine tr_block ?_
              | refine tr_scope ?_
              | (refine tr_skip ?_; try simp only [ex_seq, ex_block])
              | (refine tr_label ?_; try simp only [ex_seq, ex_block])
              | (refine tr_exit ?_; try simp only [ex_seq_exit, ex_block_exit, Nat.reduceEqDiff, if_true, if_false, ex_seq, ex_block, reduceCtorEq, ↓reduceIte])
              | (refine tr_ret ?_; try simp only [ex_seq_ret, ex_block_ret]))
          refine tr_cond rfl (fun ht => ?_) (fun hf => ?_)
          · repeat (first
                | refine tr_seq_k fun _ _ => ?_
                | (refine tr_region ?_; simp only [go_sem, List.getElem?_toArray, str_beq, reduceCtorEq, Nat.reduceEqDiff, Nat.reduceLT, Nat.reduceLeDiff, Nat.reduceAdd, Nat.reduceMul, Nat.reduceSub, Nat.reduceBEq, ↓reduceIte, bne_self_eq_false, Bool.and_false, Bool.false_and, Bool.true_or, Bool.false_or])
                | refine k_of (by assumption) ?_
                | refine tr_block ?_
                | refine tr_scope ?_
                | (refine tr_skip ?_; try simp only [ex_seq, ex_block])
                | (refine tr_label ?_; try simp only [ex_seq, ex_block])
                | (refine tr_exit ?_; try simp only [ex_seq_exit, ex_block_exit, Nat.reduceEqDiff, if_true, if_false, ex_seq, ex_block, reduceCtorEq, ↓reduceIte])
                | (refine tr_ret ?_; try simp only [ex_seq_ret, ex_block_ret]))
            refine (hQ _ _ [iA k, bA true] ?_ (by rw [hr]; rfl) rfl).2 <;> simp only [go_sem, List.getElem?_toArray, str_beq, reduceCtorEq, Nat.reduceEqDiff, Nat.reduceLT, Nat.reduceLeDiff, Nat.reduceAdd, Nat.reduceMul, Nat.reduceSub, Nat.reduceBEq, ↓reduceIte, bne_self_eq_false, Bool.and_false, Bool.false_and, Bool.true_or, Bool.false_or, Try.f23]
          · cases hf
        | false =>
          have h3' := of_decide_eq_false h3
          repeat (first
              | refine tr_seq_k fun _ _ => ?_
              | (refine tr_region ?_; simp only [go_sem, List.getElem?_toArray, str_beq, reduceCtorEq, Nat.reduceEqDiff, Nat.reduceLT, Nat.reduceLeDiff, Nat.reduceAdd, Nat.reduceMul, Nat.reduceSub, Nat.reduceBEq, ↓reduceIte, bne_self_eq_false, Bool.and_false, Bool.false_and, Bool.true_or, Bool.false_or, hb, h1, h2, hL, i1, g1, h3])
              | refine k_of (by assumption) ?_
              | refine tr_block ?_
              | refine tr_scope ?_
              | (refine tr_skip ?_; try simp only [ex_seq, ex_block])
              | (refine tr_label ?_; try simp only [ex_seq, ex_block])
              | (refine tr_exit ?_; try simp only [ex_seq_exit, ex_block_exit, Nat.reduceEqDiff, if_true, if_false, ex_seq, ex_block, reduceCtorEq, ↓reduceIte])
              | (refine tr_ret ?_; try simp only [ex_seq_ret, ex_block_ret]))
          refine tr_cond rfl (fun ht => ?_) (fun hf => ?_)
          · cases ht
          · repeat (first
                | refine tr_seq_k fun _ _ => ?_
                | (refine tr_region ?_; simp only [go_sem, List.getElem?_toArray, str_beq, reduceCtorEq, Nat.reduceEqDiff, Nat.reduceLT, Nat.reduceLeDiff, Nat.reduceAdd, Nat.reduceMul, Nat.reduceSub, Nat.reduceBEq, ↓reduceIte, bne_self_eq_false, Bool.and_false, Bool.false_and, Bool.true_or, Bool.false_or, ws])
                | refine k_of (by assumption) ?_
                | refine tr_block ?_
                | refine tr_scope ?_
                | (refine tr_skip ?_; try simp only [ex_seq, ex_block])
                | (refine tr_label ?_; try simp only [ex_seq, ex_block])
                | (refine tr_exit ?_; try simp only [ex_seq_exit, ex_block_exit, Nat.reduceEqDiff, if_true, if_false, ex_seq, ex_block, reduceCtorEq, ↓reduceIte])
                | (refine tr_ret ?_; try simp only [ex_seq_ret, ex_block_ret]))
            exact hK (k + 1) _ _ ⟨hkl, fun j hj hE => by
              rcases Nat.lt_succ_iff_lt_or_eq.1 hj with h | rfl
              · exact hI j h hE
              · exact Or.inr (by rw [hge]; exact h3')⟩ ⟨⟨rfl, rfl, rfl, trivial⟩, Keep.refl _, by simp only [lowF, low, Bool.and_true, Bool.true_and, Nat.blt_eq]; exact hlt, hW, Nat.le_refl _, Nat.le_refl _⟩ (by omega)
    · cases hf
  · have h1 : decide ((k : Int) < (((txE E).length : Nat) : Int)) = false := decide_eq_false (by rw [txE_len]; omega)
    have hr : findS E s = none := by
      by_cases h2 : s = emp
      · unfold findS; rw [if_pos h2]
      · exact findS_no fun j hj => (hI j (by omega) hj).resolve_left h2
    rcases slV_row hT with ⟨cs, hv, hv2⟩ | ⟨b', hv, hv2⟩
    · repeat (first
          | refine tr_seq_k fun _ _ => ?_
          | (refine tr_region ?_; simp only [go_sem, List.getElem?_toArray, str_beq, reduceCtorEq, Nat.reduceEqDiff, Nat.reduceLT, Nat.reduceLeDiff, Nat.reduceAdd, Nat.reduceMul, Nat.reduceSub, Nat.reduceBEq, ↓reduceIte, bne_self_eq_false, Bool.and_false, Bool.false_and, Bool.true_or, Bool.false_or, hb, h1, p1, hv, hv2])
          | refine k_of (by assumption) ?_
          | refine tr_block ?_
          | refine tr_scope ?_
          | (refine tr_skip ?_; try simp only [ex_seq, ex_block])
          | (refine tr_label ?_; try simp only [ex_seq, ex_block])
          | (refine tr_exit ?_; try simp only [ex_seq_exit, ex_block_exit, Nat.reduceEqDiff, if_true, if_false, ex_seq, ex_block, reduceCtorEq, ↓reduceIte])
          | (refine tr_ret ?_; try simp only [ex_seq_ret, ex_block_ret]))
      refine tr_cond rfl (fun ht => ?_) (fun hf => ?_)
      · cases ht
      · repeat (first
            | refine tr_seq_k fun _ _ => ?_
            | (refine tr_region ?_; simp only [go_sem, List.getElem?_toArray, str_beq, reduceCtorEq, Nat.reduceEqDiff, Nat.reduceLT, Nat.reduceLeDiff, Nat.reduceAdd, Nat.reduceMul, Nat.reduceSub, Nat.reduceBEq, ↓reduceIte, bne_self_eq_false, Bool.and_false, Bool.false_and, Bool.true_or, Bool.false_or])
            | refine k_of (by assumption) ?_
            | refine tr_block ?_
            | refine tr_scope ?_
            | (refine tr_skip ?_; try simp only [ex_seq, ex_block])
            | (refine tr_label ?_; try simp only [ex_seq, ex_block])
            | (refine tr_exit ?_; try simp only [ex_seq_exit, ex_block_exit, Nat.reduceEqDiff, if_true, if_false, ex_seq, ex_block, reduceCtorEq, ↓reduceIte])
            | (refine tr_ret ?_; try simp only [ex_seq_ret, ex_block_ret]))
        refine (hQ _ _ [iA 0, bA false] ?_ (by rw [hr]; rfl) rfl).2 <;> simp only [go_sem, List.getElem?_toArray, str_beq, reduceCtorEq, Nat.reduceEqDiff, Nat.reduceLT, Nat.reduceLeDiff, Nat.reduceAdd, Nat.reduceMul, Nat.reduceSub, Nat.reduceBEq, ↓reduceIte, bne_self_eq_false, Bool.and_false, Bool.false_and, Bool.true_or, Bool.false_or, Try.f23]
    · repeat (first
          | refine tr_seq_k fun _ _ => ?_
          | (refine tr_region ?_; simp only [go_sem, List.getElem?_toArray, str_beq, reduceCtorEq, Nat.reduceEqDiff, Nat.reduceLT, Nat.reduceLeDiff, Nat.reduceAdd, Nat.reduceMul, Nat.reduceSub, Nat.reduceBEq, ↓reduceIte, bne_self_eq_false, Bool.and_false, Bool.false_and, Bool.true_or, Bool.false_or, hb, h1, p1, hv, hv2])
          | refine k_of (by assumption) ?_
          | refine tr_block ?_
          | refine tr_scope ?_
          | (refine tr_skip ?_; try simp only [ex_seq, ex_block])
          | (refine tr_label ?_; try simp only [ex_seq, ex_block])
          | (refine tr_exit ?_; try simp only [ex_seq_exit, ex_block_exit, Nat.reduceEqDiff, if_true, if_false, ex_seq, ex_block, reduceCtorEq, ↓reduceIte])
          | (refine tr_ret ?_; try simp only [ex_seq_ret, ex_block_ret]))
      refine tr_cond rfl (fun ht => ?_) (fun hf => ?_)
      · cases ht
      · repeat (first
            | refine tr_seq_k fun _ _ => ?_
            | (refine tr_region ?_; simp only [go_sem, List.getElem?_toArray, str_beq, reduceCtorEq, Nat.reduceEqDiff, Nat.reduceLT, Nat.reduceLeDiff, Nat.reduceAdd, Nat.reduceMul, Nat.reduceSub, Nat.reduceBEq, ↓reduceIte, bne_self_eq_false, Bool.and_false, Bool.false_and, Bool.true_or, Bool.false_or])
            | refine k_of (by assumption) ?_
            | refine tr_block ?_
            | refine tr_scope ?_
            | (refine tr_skip ?_; try simp only [ex_seq, ex_block])
            | (refine tr_label ?_; try simp only [ex_seq, ex_block])
            | (refine tr_exit ?_; try simp only [ex_seq_exit, ex_block_exit, Nat.reduceEqDiff, if_true, if_false, ex_seq, ex_block, reduceCtorEq, ↓reduceIte])
            | (refine tr_ret ?_; try simp only [ex_seq_ret, ex_block_ret]))
        refine (hQ _ _ [iA 0, bA false] ?_ (by rw [hr]; rfl) rfl).2 <;> simp only [go_sem, List.getElem?_toArray, str_beq, reduceCtorEq, Nat.reduceEqDiff, Nat.reduceLT, Nat.reduceLeDiff, Nat.reduceAdd, Nat.reduceMul, Nat.reduceSub, Nat.reduceBEq, ↓reduceIte, bne_self_eq_false, Bool.and_false, Bool.false_and, Bool.true_or, Bool.false_or, Try.f23]

theorem liveN_take {E : List Ent} {k : Nat} (hk : k < E.length) : liveN (E.take (k + 1)) = liveN (E.take k) + if liveB E[k] then 1 else 0 := by
  rw [← List.take_append_getElem hk]
  unfold liveN
  rw [List.filter_append, List.length_append]
  cases h : liveB E[k] <;> simp [List.filter_cons, h]
theorem rlen_gives {m : Mm} {b : Nat} {E : List Ent} {S : List Nat} (h : RefM m b E S) (hW : Wf m) (hM : E.length ≤ 1000) : GivesW Try.prog 26 [.ptr b 0] m (iA (liveN E : Nat)) m := by
  have hlt := h.lt
  obtain ⟨c1, c2, s1, s2, hb, hT, hU, hS, hnd⟩ := h
  have p1 := hT.plain1
  have z0 : ((0 : Nat) : Int) = 0 := rfl
  refine givesW_of' Try.func26 rfl (by kernel_rfl) Try.ntmps26 rfl rfl fun Q hQ => ?_
  repeat (first
      | refine tr_seq_k fun _ _ => ?_
      | (refine tr_region ?_; simp only [go_sem, List.getElem?_toArray, str_beq, reduceCtorEq, Nat.reduceEqDiff, Nat.reduceLT, Nat.reduceLeDiff, Nat.reduceAdd, Nat.reduceMul, Nat.reduceSub, Nat.reduceBEq, ↓reduceIte, bne_self_eq_false, Bool.and_false, Bool.false_and, Bool.true_or, Bool.false_or])
      | refine k_of (by assumption) ?_
      | refine tr_block ?_
      | refine tr_scope ?_
      | (refine tr_skip ?_; try simp only [ex_seq, ex_block])
      | (refine tr_label ?_; try simp only [ex_seq, ex_block])
      | (refine tr_exit ?_; try simp only [ex_seq_exit, ex_block_exit, Nat.reduceEqDiff, if_true, if_false, ex_seq, ex_block, reduceCtorEq, ↓reduceIte])
      | (refine tr_ret ?_; try simp only [ex_seq_ret, ex_block_ret]))
  refine tr_loop_k (σ := Nat) (fun k => [(0, .ptr b 0), (3, iA (liveN (E.take k) : Nat)), (4, iA k)]) (fun _ => m) (fun k => k ≤ E.length) (fun k => E.length - k) 0 (Nat.zero_le _) ⟨rfl, rfl, rfl, trivial⟩ rfl ?_
  rintro k hk K hK
  by_cases hkl : k < E.length
  · obtain ⟨h, L, rfl, _, hL, hEL, hkL, hg⟩ := row_getG hT (k := k) (by rw [txE_len]; exact hkl)
    have h1 : decide ((k : Int) < (((txE E).length : Nat) : Int)) = true := decide_eq_true (by rw [txE_len]; omega)
    have i1 := st_idx (b := h) (n := (txE E).length) (i := k) (by rw [txE_len]; exact hkl)
    have g1 := st_get hkL
    have ws := wrap_succ (show k ≤ 1000000000 by omega)
    have hge : (E[k]).1 = L[k] := by rw [hg, txE_get]
    have hlk := liveN_take hkl
    have hle : liveN (E.take k) ≤ 1000 := Nat.le_trans (liveN_le _) (by rw [List.length_take]; omega)
    have wl := wrap_succ (show liveN (E.take k) ≤ 1000000000 by omega)
    repeat (first
        | refine tr_seq_k fun _ _ => ?_
        | (refine tr_region ?_; simp only [go_sem, List.getElem?_toArray, str_beq, reduceCtorEq, Nat.reduceEqDiff, Nat.reduceLT, Nat.reduceLeDiff, Nat.reduceAdd, Nat.reduceMul, Nat.reduceSub, Nat.reduceBEq, ↓reduceIte, bne_self_eq_false, Bool.and_false, Bool.false_and, Bool.true_or, Bool.false_or, hb, h1])
        | refine k_of (by assumption) ?_
        | refine tr_block ?_
        | refine tr_scope ?_
        | (refine tr_skip ?_; try simp only [ex_seq, ex_block])
        | (refine tr_label ?_; try simp only [ex_seq, ex_block])
        | (refine tr_exit ?_; try simp only [ex_seq_exit, ex_block_exit, Nat.reduceEqDiff, if_true, if_false, ex_seq, ex_block, reduceCtorEq, ↓reduceIte])
        | (refine tr_ret ?_; try simp only [ex_seq_ret, ex_block_ret]))
    refine tr_cond rfl (fun ht => ?_) (fun hf => ?_)
    · cases h2 : decide (L[k] = ⟨#[]⟩) with
      | true =>
        have h2' : (E[k]).1 = emp := by rw [hge]; exact of_decide_eq_true h2
        rw [show liveB E[k] = false by simp [liveB, h2'], if_neg Bool.false_ne_true, Nat.add_zero] at hlk
        repeat (first
            | refine tr_seq_k fun _ _ => ?_
            | (refine tr_region ?_; simp only [go_sem, List.getElem?_toArray, str_beq, reduceCtorEq, Nat.reduceEqDiff, Nat.reduceLT, Nat.reduceLeDiff, Nat.reduceAdd, Nat.reduceMul, Nat.reduceSub, Nat.reduceBEq, ↓reduceIte, bne_self_eq_false, Bool.and_false, Bool.false_and, Bool.true_or, Bool.false_or, hb, h1, hL, i1, g1, h2])
            | refine k_of (by assumption) ?_
            | refine tr_block ?_
            | refine tr_scope ?_
            | (refine tr_skip ?_; try simp only [ex_seq, ex_block])
            | (refine tr_label ?_; try simp only [ex_seq, ex_block])
            | (refine tr_exit ?_; try simp only [ex_seq_exit, ex_block_exit, Nat.reduceEqDiff, if_true, if_false, ex_seq, ex_block, reduceCtorEq, ↓reduceIte])
            | (refine tr_ret ?_; try simp only [ex_seq_ret, ex_block_ret]))
        refine tr_cond rfl (fun ht => ?_) (fun hf => ?_)
        · cases ht
        · repeat (first
              | refine tr_seq_k fun _ _ => ?_
              | (refine tr_region ?_; simp only [go_sem, List.getElem?_toArray, str_beq, reduceCtorEq, Nat.reduceEqDiff, Nat.reduceLT, Nat.reduceLeDiff, Nat.reduceAdd, Nat.reduceMul, Nat.reduceSub, Nat.reduceBEq, ↓reduceIte, bne_self_eq_false, Bool.and_false, Bool.false_and, Bool.true_or, Bool.false_or, ws])
              | refine k_of (by assumption) ?_
              | refine tr_block ?_
              | refine tr_scope ?_
              | (refine tr_skip ?_; try simp only [ex_seq, ex_block])
              | (refine tr_label ?_; try simp only [ex_seq, ex_block])
              | (refine tr_exit ?_; try simp only [ex_seq_exit, ex_block_exit, Nat.reduceEqDiff, if_true, if_false, ex_seq, ex_block, reduceCtorEq, ↓reduceIte])
              | (refine tr_ret ?_; try simp only [ex_seq_ret, ex_block_ret]))
          exact hK (k + 1) _ _ hkl ⟨⟨rfl, by rw [hlk]; rfl, rfl, trivial⟩, Keep.refl _, by simp only [lowF, low, Bool.and_true, Bool.true_and, Nat.blt_eq]; exact hlt, hW, Nat.le_refl _, Nat.le_refl _⟩ (by omega)
      | false =>
        have h2' : (E[k]).1 ≠ emp := by rw [hge]; exact of_decide_eq_false h2
        rw [show liveB E[k] = true by simp [liveB, h2'], if_pos rfl] at hlk
        repeat (first
            | refine tr_seq_k fun _ _ => ?_
            | (refine tr_region ?_; simp only [go_sem, List.getElem?_toArray, str_beq, reduceCtorEq, Nat.reduceEqDiff, Nat.reduceLT, Nat.reduceLeDiff, Nat.reduceAdd, Nat.reduceMul, Nat.reduceSub, Nat.reduceBEq, ↓reduceIte, bne_self_eq_false, Bool.and_false, Bool.false_and, Bool.true_or, Bool.false_or, hb, h1, hL, i1, g1, h2])
            | refine k_of (by assumption) ?_
            | refine tr_block ?_
            | refine tr_scope ?_
            | (refine tr_skip ?_; try simp only [ex_seq, ex_block])
            | (refine tr_label ?_; try simp only [ex_seq, ex_block])
            | (refine tr_exit ?_; try simp only [ex_seq_exit, ex_block_exit, Nat.reduceEqDiff, if_true, if_false, ex_seq, ex_block, reduceCtorEq, ↓reduceIte])
            | (refine tr_ret ?_; try simp only [ex_seq_ret, ex_block_ret]))
        refine tr_cond rfl (fun ht => ?_) (fun hf => ?_)
        · repeat (first
              | refine tr_seq_k fun _ _ => ?_
              | (refine tr_region ?_; simp only [go_sem, List.getElem?_toArray, str_beq, reduceCtorEq, Nat.reduceEqDiff, Nat.reduceLT, Nat.reduceLeDiff, Nat.reduceAdd, Nat.reduceMul, Nat.reduceSub, Nat.reduceBEq, ↓reduceIte, bne_self_eq_false, Bool.and_false, Bool.false_and, Bool.true_or, Bool.false_or, ws, wl])
              | refine k_of (by assumption) ?_
              | refine tr_block ?_
              | refine tr_scope ?_
              | (refine tr_skip ?_; try simp only [ex_seq, ex_block])
              | (refine tr_label ?_; try simp only [ex_seq, ex_block])
              | (refine tr_exit ?_; try simp only [ex_seq_exit, ex_block_exit, Nat.reduceEqDiff, if_true, if_false, ex_seq, ex_block, reduceCtorEq, ↓reduceIte])
              | (refine tr_ret ?_; try simp only [ex_seq_ret, ex_block_ret]))
          exact hK (k + 1) _ _ hkl ⟨⟨rfl, by rw [hlk]; rfl, rfl, trivial⟩, Keep.refl _, by simp only [lowF, low, Bool.and_true, Bool.true_and, Nat.blt_eq]; exact hlt, hW, Nat.le_refl _, Nat.le_refl _⟩ (by omega)
        · cases hf
    · cases hf
  · have h1 : decide ((k : Int) < (((txE E).length : Nat) : Int)) = false := decide_eq_false (by rw [txE_len]; omega)
    have hr : liveN (E.take k) = liveN E := by rw [List.take_of_length_le (by omega)]
    rcases slV_row hT with ⟨cs, hv, hv2⟩ | ⟨b', hv, hv2⟩
    · repeat (first
          | refine tr_seq_k fun _ _ => ?_
          | (refine tr_region ?_; simp only [go_sem, List.getElem?_toArray, str_beq, reduceCtorEq, Nat.reduceEqDiff, Nat.reduceLT, Nat.reduceLeDiff, Nat.reduceAdd, Nat.reduceMul, Nat.reduceSub, Nat.reduceBEq, ↓reduceIte, bne_self_eq_false, Bool.and_false, Bool.false_and, Bool.true_or, Bool.false_or, hb, h1, p1, hv, hv2])
          | refine k_of (by assumption) ?_
          | refine tr_block ?_
          | refine tr_scope ?_
          | (refine tr_skip ?_; try simp only [ex_seq, ex_block])
          | (refine tr_label ?_; try simp only [ex_seq, ex_block])
          | (refine tr_exit ?_; try simp only [ex_seq_exit, ex_block_exit, Nat.reduceEqDiff, if_true, if_false, ex_seq, ex_block, reduceCtorEq, ↓reduceIte])
          | (refine tr_ret ?_; try simp only [ex_seq_ret, ex_block_ret]))
      refine tr_cond rfl (fun ht => ?_) (fun hf => ?_)
      · cases ht
      · repeat (first
            | refine tr_seq_k fun _ _ => ?_
            | (refine tr_region ?_; simp only [go_sem, List.getElem?_toArray, str_beq, reduceCtorEq, Nat.reduceEqDiff, Nat.reduceLT, Nat.reduceLeDiff, Nat.reduceAdd, Nat.reduceMul, Nat.reduceSub, Nat.reduceBEq, ↓reduceIte, bne_self_eq_false, Bool.and_false, Bool.false_and, Bool.true_or, Bool.false_or])
            | refine k_of (by assumption) ?_
            | refine tr_block ?_
            | refine tr_scope ?_
            | (refine tr_skip ?_; try simp only [ex_seq, ex_block])
            | (refine tr_label ?_; try simp only [ex_seq, ex_block])
            | (refine tr_exit ?_; try simp only [ex_seq_exit, ex_block_exit, Nat.reduceEqDiff, if_true, if_false, ex_seq, ex_block, reduceCtorEq, ↓reduceIte])
            | (refine tr_ret ?_; try simp only [ex_seq_ret, ex_block_ret]))
        refine (hQ _ _ [iA (liveN (E.take k) : Nat)] ?_ (by rw [hr]; rfl) rfl).2 <;> simp only [go_sem, List.getElem?_toArray, str_beq, reduceCtorEq, Nat.reduceEqDiff, Nat.reduceLT, Nat.reduceLeDiff, Nat.reduceAdd, Nat.reduceMul, Nat.reduceSub, Nat.reduceBEq, ↓reduceIte, bne_self_eq_false, Bool.and_false, Bool.false_and, Bool.true_or, Bool.false_or, Try.f26]
    · repeat (first
          | refine tr_seq_k fun _ _ => ?_
          | (refine tr_region ?_; simp only [go_sem, List.getElem?_toArray, str_beq, reduceCtorEq, Nat.reduceEqDiff, Nat.reduceLT, Nat.reduceLeDiff, Nat.reduceAdd, Nat.reduceMul, Nat.reduceSub, Nat.reduceBEq, ↓reduceIte, bne_self_eq_false, Bool.and_false, Bool.false_and, Bool.true_or, Bool.false_or, hb, h1, p1, hv, hv2])
          | refine k_of (by assumption) ?_
          | refine tr_block ?_
          | refine tr_scope ?_
          | (refine tr_skip ?_; try simp only [ex_seq, ex_block])
          | (refine tr_label ?_; try simp only [ex_seq, ex_block])
          | (refine tr_exit ?_; try simp only [ex_seq_exit, ex_block_exit, Nat.reduceEqDiff, if_true, if_false, ex_seq, ex_block, reduceCtorEq, ↓reduceIte])
          | (refine tr_ret ?_; try simp only [ex_seq_ret, ex_block_ret]))
      refine tr_cond rfl (fun ht => ?_) (fun hf => ?_)
      · cases ht
      · repeat (first
            | refine tr_seq_k fun _ _ => ?_
            | (refine tr_region ?_; simp only [go_sem, List.getElem?_toArray, str_beq, reduceCtorEq, Nat.reduceEqDiff, Nat.reduceLT, Nat.reduceLeDiff, Nat.reduceAdd, Nat.reduceMul, Nat.reduceSub, Nat.reduceBEq, ↓reduceIte, bne_self_eq_false, Bool.and_false, Bool.false_and, Bool.true_or, Bool.false_or])
            | refine k_of (by assumption) ?_
            | refine tr_block ?_
            | refine tr_scope ?_
            | (refine tr_skip ?_; try simp only [ex_seq, ex_block])
            | (refine tr_label ?_; try simp only [ex_seq, ex_block])
            | (refine tr_exit ?_; try simp only [ex_seq_exit, ex_block_exit, Nat.reduceEqDiff, if_true, if_false, ex_seq, ex_block, reduceCtorEq, ↓reduceIte])
            | (refine tr_ret ?_; try simp only [ex_seq_ret, ex_block_ret]))
        refine (hQ _ _ [iA (liveN (E.take k) : Nat)] ?_ (by rw [hr]; rfl) rfl).2 <;> simp only [go_sem, List.getElem?_toArray, str_beq, reduceCtorEq, Nat.reduceEqDiff, Nat.reduceLT, Nat.reduceLeDiff, Nat.reduceAdd, Nat.reduceMul, Nat.reduceSub, Nat.reduceBEq, ↓reduceIte, bne_self_eq_false, Bool.and_false, Bool.false_and, Bool.true_or, Bool.false_or, Try.f26]
end Go.Proofs.Ytlhlcfijpdknfaa

/-
  Chapter 2: entries, as a contract.
-/
set_option linter.unusedSimpArgs false
set_option linter.unusedVariables false
namespace Go.Proofs.Ytlhlcfijpdknfaa
open Go.RowKit Go.Maps Go.Sort Go.Shelf Go.Vs Go.Vs.Ab Go.Vs.Hp Go.Vs.Tb
set_option maxRecDepth 100000
set_option maxHeartbeats 4000000

theorem exV_flat_rep (C : Nat → Nat → Option Value) : ∀ l : List (Nat × ByteArray), RepCs C (l.flatMap exC) (l.flatMap exV)
  | [] => ⟨rfl, fun i c x h => by simp at h⟩
  | p :: r => by
    have ih := exV_flat_rep C r
    refine ⟨?_, fun i c x h1 h2 => ?_⟩
    · have := ih.1
      simp only [List.flatMap_cons, List.length_append, this]
      rfl
    · rw [List.flatMap_cons] at h1 h2
      match i with
      | 0 => simp [exC] at h1; simp [exV] at h2; subst h1 h2; exact .v rfl
      | 1 => simp [exC] at h1; simp [exV] at h2; subst h1 h2; exact .v rfl
      | i + 2 => exact ih.2 i c x (by simpa [exC] using h1) (by simpa [exV] using h2)
theorem exV_len (l : List (Nat × ByteArray)) : (l.flatMap exV).length = l.length * 2 := by
  induction l with
  | nil => rfl
  | cons p r ih => rw [List.flatMap_cons, List.length_append, ih, List.length_cons]; simp [exV]; omega

/-- A table in memory, as its iterator reads it. -/
theorem tw_of {m : Mm} {b : Nat} {E : List Ent} {S : List Nat} (h : TabM m b E S) (hE : E.length ≤ 1000) (hts : ∀ e ∈ E, e.1.size ≤ maxLen) {X : Mem} {W0 w : World} (M : MR X W0 m w) {β : Nat} (hβ : X.loc b = some β) :
    ∃ bm a cap N, ∀ w', Below w.heap.size w w' → ∀ Bt, Bt < w'.heap.size → w'.cell? ⟨Bt, 0, none⟩ = some (.pointer (some ⟨β, 0, none⟩)) → TW w' Bt β bm a cap E N := by
  obtain ⟨c1, c2, mb, F, N, s1, s2, hb, hF, hEr, hN, hI, hS, hnd⟩ := h
  obtain ⟨β', k1, k2, k3, kB⟩ := M.locs b _ hb
  rw [hβ] at k1
  injection k1 with k1
  subst k1
  obtain ⟨bm, j1, j2, j3, jB⟩ := M.locs mb _ hN
  have p1 := hF.plain1
  obtain ⟨t, arr, q1, q2, q3, q4, q5⟩ := kB.plain (by simpa [plainB] using p1)
  obtain ⟨x2, g1, g2⟩ := reps_take_get q3 (i := 1) (c := c2) rfl
  obtain ⟨x3, g3, g4⟩ := reps_take_get q3 (i := 2) (c := .mapp mb) rfl
  cases g4 with
  | mapp g4 =>
  rw [j1] at g4
  injection g4 with g4
  subst g4
  have hlenN : N.length = (lives E).length := by rw [← hI.perm.length_eq, List.length_map]
  have hliv : (lives E).length ≤ E.length := by
    unfold lives
    exact Nat.le_trans (List.length_filter_le _ _) (by rw [List.length_range]; exact Nat.le_refl _)
  have hown : w.ownsMap Try.prog 9 (plainElem Try.prog 3) bm N.length (DN N) := by
    cases jB with
    | dead h => simp at h
    | cells h1 h2 h3 h4 h5 =>
      obtain ⟨x, _, hx⟩ := reps_take_get h3 (i := 0) (c := .ent (nmI N)) rfl
      cases hx
    | ent h1 h2 h3 h4 h5 =>
      simp only [List.cons.injEq, AV.ent.injEq, and_true] at h1
      subst h1
      refine own_nm h2 h3 hI.nnd (fun p hp => ?_) (fun p hp => ?_) (by unfold maxLen; omega)
      · obtain ⟨u, hu, _⟩ := (hI.nmem p.1 p.2).1 hp
        exact hts (p.1, u) (List.mem_of_getElem? hu)
      · obtain ⟨u, hu, _⟩ := (hI.nmem p.1 p.2).1 hp
        have := (List.getElem?_eq_some_iff.1 hu).1
        omega
  have hen : ∃ a cap, x2 = .slice a E.length cap ∧ ∀ (i : Nat) (hi : i < E.length), ∃ be oe, a = some ⟨be, oe, none⟩ ∧ be < w.heap.size ∧ w.cell? ⟨be, oe + i * 2, none⟩ = some (.string E[i].1) := by
    rcases hEr with ⟨rfl, rfl, _⟩ | ⟨hh, L, rfl, _, hL, hEL⟩
    · cases g2 with
      | c g2 =>
        cases g2 with
        | sl => exact ⟨_, _, rfl, fun i hi => absurd hi (by simp)⟩
    · cases g2 with
      | lsl hl ho hn hc hr =>
        refine ⟨_, _, rfl, fun i hi => ?_⟩
        have ho := ho (by omega)
        obtain ⟨γ, l1, l2, l3, lB⟩ := M.locs hh _ hL
        rw [hl] at l1
        injection l1 with l1
        subst l1
        refine ⟨_, _, rfl, l3, ?_⟩
        obtain ⟨t2, arr2, e1, e2, e3, e4, e5⟩ := lB.plain plainB_blC
        have hkL : i < L.length := by
          have := congrArg List.length hEL
          rw [List.length_take] at this
          omega
        obtain ⟨x, f1, f2⟩ := reps_take_get e3 (i := i * 2) (c := sA L[i].1) (en_get0 hkL)
        rw [take_get hEL hi hkL]
        subst ho
        cases f2 with
        | c f2 =>
          cases f2 with
          | v f2 =>
            refine cell_of_heap e1 ?_
            simpa using f1
  obtain ⟨a, cap, rfl, hen⟩ := hen
  refine ⟨bm, a, cap, N, fun w' hb' Bt hBt hbox => ⟨hbox, hBt, Nat.lt_of_lt_of_le k3 hb'.size, (hb'.cell (p := ⟨β, 1, none⟩) k3).trans (cell_of_heap q1 g1), (hb'.cell (p := ⟨β, 2, none⟩) k3).trans (cell_of_heap q1 g3), fun i hi => ?_, ?_, hI.nnd, hI.perm, by omega, fun i hi => ?_⟩⟩
  · obtain ⟨be, oe, h1, h2, h3⟩ := hen i hi
    exact ⟨be, oe, h1, Nat.lt_of_lt_of_le h2 hb'.size, (hb'.cell (p := ⟨be, oe + i * 2, none⟩) h2).trans h3⟩
  · obtain ⟨es, clock, h1, Ft, hs, hD⟩ := hown
    exact ⟨es, clock, (hb'.block bm j3).trans h1, Ft, hs, hD⟩
  · obtain ⟨e, he, _⟩ := mem_lives.1 hi
    exact (List.getElem?_eq_some_iff.1 he).1

/-- **entries**: what a table holds, in order. -/
theorem entries_gives {m : Mm} {b : Nat} {E : List Ent} {S : List Nat} (h : TabM m b E S) (hE : E.length ≤ 1000) (hts : ∀ e ∈ E, e.1.size ≤ maxLen) {most : Nat} (hm : (lives E).length ≤ most) (hm2 : most ≤ 1000000) :
    GivesW Try.prog 24 [.ptr b 0, iA (most : Nat)] m (.tup [.c (.sl (decide (exL E = [])) (exL E).length ((exL E).flatMap exC)), bA true]) m := by
  refine ⟨enters_of Try.func24 (by kernel_rfl) rfl, fun X W0 w vs M hr => ?_⟩
  obtain ⟨hl, hv⟩ := hr
  match hvs : vs.toList, hl with
  | [x1, x2], hl2 =>
  rw [hvs] at hv
  have r1 := hv 0 _ x1 rfl rfl
  have r2 := hv 1 _ x2 rfl rfl
  cases r1 with
  | ptr hβ =>
  rename_i β
  cases r2 with
  | c r2 =>
  cases r2 with
  | v r2 =>
  have hvs2 : vs = #[.pointer (some ⟨β, 0, none⟩), .int .i64 (most : Nat)] := Array.ext' hvs
  rw [hvs2]
  obtain ⟨bm, a, cap, N, hT⟩ := tw_of h hE hts M hβ
  refine (callsIn_wide.1 (entries_in 20 (by decide) β bm a cap E N w most hm hm2 hT)).mono ?_
  rintro e w' ⟨v, rfl, hrow, hnil, hbel⟩
  have M1 := M.grow hbel
  rcases hrow.2 with ⟨rfl, hk⟩ | ⟨g, cp, cur, rfl, hgb, hgg, s1, s2, s3, s4⟩
  · have he := hnil.1 rfl
    rw [he]
    refine ⟨_, X, rfl, Mem.Le.refl _ _, .tup rfl fun i c x h1 h2 => ?_, M1⟩
    match i with
    | 0 => simp at h1 h2; subst h1 h2; exact .c (.sl (xs := []) rfl (fun i c x h => by cases h) (Nat.le_refl _) ⟨by decide, fun _ => rfl⟩ (fun _ => rfl) (fun j x h => by cases h))
    | 1 => simp at h1 h2; subst h1 h2; exact .c (.v rfl)
    | i + 2 => simp at h1
  · have hne : decide (exL E = []) = false := decide_eq_false fun e => by have := hnil.2 e; cases this
    rw [hne]
    have hgW : W0.heap.size ≤ g := Nat.le_trans M.below.size hgb
    have hC : ∀ o, X.cell g o = none := fun o => by
      cases hx : X.cell g o with
      | none => rfl
      | some x =>
        have := M.cell g o x hx
        have hlt : g < w.heap.size := by
          unfold World.cell? at this
          cases hw : w.heap[g]? with
          | none => simp [hw] at this
          | some ob => exact (Array.getElem?_eq_some_iff.1 hw).1
        omega
    have M2 := M1.claim (xs := (exL E).flatMap exV) hgW hC (fun i e => by have := (M.locBlock e).1; omega) (fun k T e => by have := (M.tokBlock e).1; omega) (fun o x hx => by
      refine cell_of_heap hgg ?_
      rw [← s4, List.getElem?_take] at hx
      split at hx
      · simpa using hx
      · cases hx)
    refine ⟨_, _, rfl, Mem.le_claim hC hgW, .tup rfl fun i c x h1 h2 => ?_, M2⟩
    match i with
    | 0 =>
      simp at h1 h2
      subst h1 h2
      refine .c (.sl (exV_flat_rep (fun _ _ => none) _).1 (exV_flat_rep _ _).2 s1 ⟨s2, fun e => by cases e⟩ (fun e => by cases e) (fun j x hx => ⟨_, _, rfl, ?_⟩))
      simp only [Mem.claim, Nat.zero_add, if_true]
      exact hx
    | 1 => simp at h1 h2; subst h1 h2; exact .c (.v rfl)
    | i + 2 => simp at h1
end Go.Proofs.Ytlhlcfijpdknfaa

/-
  Chapter 2, the document's answer: Take, Drop.
-/
set_option linter.unusedSimpArgs false
set_option linter.unusedVariables false
namespace Go.Proofs.Ytlhlcfijpdknfaa
open Go.Vs Go.Vs.Ab Go.Vs.Hp Go.Vs.Tb
set_option maxRecDepth 100000
set_option maxHeartbeats 4000000

theorem txE_set (E : List Ent) (k : Nat) (x : Ent) : txE (E.set k x) = (txE E).set k x.1 := by simp [txE, List.map_set]
theorem usE_set (E : List Ent) (k : Nat) (x : Ent) : usE (E.set k x) = (usE E).set k (x.2 : Int) := by simp [usE, List.map_set]
theorem set_same {T : Type} {l : List T} {k : Nat} (h : k < l.length) {x : T} (hx : l[k] = x) : l.set k x = l := by
  apply List.ext_getElem
  · simp
  · intro i h1 h2
    rw [List.getElem_set]
    split
    · rename_i e; subst e; exact hx.symm
    · rfl
theorem ref_disj {b : Nat} {s1 s2 : List Nat} (h : (b :: (s1 ++ s2)).Nodup) : b ∉ s1 ∧ b ∉ s2 ∧ ∀ i ∈ s1, i ∉ s2 := by
  simp only [List.nodup_cons, List.mem_append, not_or, List.nodup_append] at h
  exact ⟨h.1.1, h.1.2, fun i hi h2 => h.2.2.2 i hi i h2 rfl⟩

theorem rtake_bad {m : Mm} {b : Nat} {E : List Ent} {S : List Nat} (h : RefM m b E S) {s : ByteArray} (hs : s.size < 1 ∨ 255 < s.size) : GivesW Try.prog 20 [.ptr b 0, sA s] m (.tup [iA 0, iA 2]) m := by
  cases h1 : decide ((s.size : Int) < 1) with
  | true =>
    refine givesW_of' Try.func20 rfl (by kernel_rfl) Try.ntmps20 rfl rfl fun Q hQ => ?_
    repeat (first
        | refine tr_seq_k fun _ _ => ?_
        | (refine tr_region ?_; simp only [go_sem, List.getElem?_toArray, str_beq, reduceCtorEq, Nat.reduceEqDiff, Nat.reduceLT, Nat.reduceLeDiff, Nat.reduceAdd, Nat.reduceMul, Nat.reduceSub, Nat.reduceBEq, ↓reduceIte, bne_self_eq_false, Bool.and_false, Bool.false_and, Bool.true_or, Bool.false_or, h1])
        | refine k_of (by assumption) ?_
        | refine tr_block ?_
        | refine tr_scope ?_
        | (refine tr_skip ?_; try simp only [ex_seq, ex_block])
        | (refine tr_label ?_; try simp only [ex_seq, ex_block])
        | (refine tr_exit ?_; try simp only [ex_seq_exit, ex_block_exit, Nat.reduceEqDiff, if_true, if_false, ex_seq, ex_block, reduceCtorEq, ↓reduceIte])
        | (refine tr_ret ?_; try simp only [ex_seq_ret, ex_block_ret]))
    refine tr_cond rfl (fun ht => ?_) (fun hf => ?_)
    · repeat (first
          | refine tr_seq_k fun _ _ => ?_
          | (refine tr_region ?_; simp only [go_sem, List.getElem?_toArray, str_beq, reduceCtorEq, Nat.reduceEqDiff, Nat.reduceLT, Nat.reduceLeDiff, Nat.reduceAdd, Nat.reduceMul, Nat.reduceSub, Nat.reduceBEq, ↓reduceIte, bne_self_eq_false, Bool.and_false, Bool.false_and, Bool.true_or, Bool.false_or])
          | refine k_of (by assumption) ?_
          | refine tr_block ?_
          | refine tr_scope ?_
          | (refine tr_skip ?_; try simp only [ex_seq, ex_block])
          | (refine tr_label ?_; try simp only [ex_seq, ex_block])
          | (refine tr_exit ?_; try simp only [ex_seq_exit, ex_block_exit, Nat.reduceEqDiff, if_true, if_false, ex_seq, ex_block, reduceCtorEq, ↓reduceIte])
          | (refine tr_ret ?_; try simp only [ex_seq_ret, ex_block_ret]))
      refine (hQ _ _ [iA 0, iA 2] ?_ rfl rfl).2 <;> simp only [go_sem, List.getElem?_toArray, str_beq, reduceCtorEq, Nat.reduceEqDiff, Nat.reduceLT, Nat.reduceLeDiff, Nat.reduceAdd, Nat.reduceMul, Nat.reduceSub, Nat.reduceBEq, ↓reduceIte, bne_self_eq_false, Bool.and_false, Bool.false_and, Bool.true_or, Bool.false_or, Try.f20]
    · cases hf
  | false =>
    have h2 : decide ((255 : Int) < (s.size : Nat)) = true := decide_eq_true (by have := of_decide_eq_false h1; omega)
    refine givesW_of' Try.func20 rfl (by kernel_rfl) Try.ntmps20 rfl rfl fun Q hQ => ?_
    repeat (first
        | refine tr_seq_k fun _ _ => ?_
        | (refine tr_region ?_; simp only [go_sem, List.getElem?_toArray, str_beq, reduceCtorEq, Nat.reduceEqDiff, Nat.reduceLT, Nat.reduceLeDiff, Nat.reduceAdd, Nat.reduceMul, Nat.reduceSub, Nat.reduceBEq, ↓reduceIte, bne_self_eq_false, Bool.and_false, Bool.false_and, Bool.true_or, Bool.false_or, h1, h2])
        | refine k_of (by assumption) ?_
        | refine tr_block ?_
        | refine tr_scope ?_
        | (refine tr_skip ?_; try simp only [ex_seq, ex_block])
        | (refine tr_label ?_; try simp only [ex_seq, ex_block])
        | (refine tr_exit ?_; try simp only [ex_seq_exit, ex_block_exit, Nat.reduceEqDiff, if_true, if_false, ex_seq, ex_block, reduceCtorEq, ↓reduceIte])
        | (refine tr_ret ?_; try simp only [ex_seq_ret, ex_block_ret]))
    refine tr_cond rfl (fun ht => ?_) (fun hf => ?_)
    · repeat (first
          | refine tr_seq_k fun _ _ => ?_
          | (refine tr_region ?_; simp only [go_sem, List.getElem?_toArray, str_beq, reduceCtorEq, Nat.reduceEqDiff, Nat.reduceLT, Nat.reduceLeDiff, Nat.reduceAdd, Nat.reduceMul, Nat.reduceSub, Nat.reduceBEq, ↓reduceIte, bne_self_eq_false, Bool.and_false, Bool.false_and, Bool.true_or, Bool.false_or])
          | refine k_of (by assumption) ?_
          | refine tr_block ?_
          | refine tr_scope ?_
          | (refine tr_skip ?_; try simp only [ex_seq, ex_block])
          | (refine tr_label ?_; try simp only [ex_seq, ex_block])
          | (refine tr_exit ?_; try simp only [ex_seq_exit, ex_block_exit, Nat.reduceEqDiff, if_true, if_false, ex_seq, ex_block, reduceCtorEq, ↓reduceIte])
          | (refine tr_ret ?_; try simp only [ex_seq_ret, ex_block_ret]))
      refine (hQ _ _ [iA 0, iA 2] ?_ rfl rfl).2 <;> simp only [go_sem, List.getElem?_toArray, str_beq, reduceCtorEq, Nat.reduceEqDiff, Nat.reduceLT, Nat.reduceLeDiff, Nat.reduceAdd, Nat.reduceMul, Nat.reduceSub, Nat.reduceBEq, ↓reduceIte, bne_self_eq_false, Bool.and_false, Bool.false_and, Bool.true_or, Bool.false_or, Try.f20]
    · cases hf

theorem rtake_found {m : Mm} {b : Nat} {E : List Ent} {S : List Nat} (h : RefM m b E S) (hW : Wf m) (hM : E.length ≤ 1000) {s : ByteArray} {n : Nat} (hs : ¬ (s.size < 1 ∨ 255 < s.size)) (hf : findS E s = some n) (hU : ∀ e ∈ E, e.2 ≤ 100000) :
    ∃ m', GivesW Try.prog 20 [.ptr b 0, sA s] m (.tup [iA (n : Nat), iA 0]) m' ∧ RefM m' b (E.set n (s, (E.getD n (emp, 0)).2 + 1)) S ∧ Kp m m' S S := by
  have cf := rfind_gives h hW hM s
  rw [hf] at cf
  have cf : GivesW Try.prog 23 [.ptr b 0, sA s] m (.tup [iA (n : Nat), bA true]) m := cf
  obtain ⟨c1, c2, s1, s2, hb, hT, hR, hS, hnd⟩ := h
  have h1 : decide ((s.size : Int) < 1) = false := decide_eq_false (by omega)
  have h2 : decide ((255 : Int) < (s.size : Nat)) = false := decide_eq_false (by omega)
  obtain ⟨hse, hn, u, hu⟩ := findS_some hf
  have p1 := hT.plain1
  obtain ⟨h, L, rfl, rfl, hL, hEL, hkL, hg⟩ := row_getG hR (k := n) (by rw [usE_len]; exact hn)
  have he : E[n] = (s, u) := (List.getElem?_eq_some_iff.1 hu).2
  have hgu : L[n] = (u : Int) := by rw [hg, usE_get, he]
  have hub : u ≤ 100000 := by
    have := hU _ (List.getElem_mem hn)
    rw [he] at this
    exact this
  have i1 := in_idx Try.underlying55 (b := h) (n := (usE E).length) (i := n) (by rw [usE_len]; exact hn)
  have g1 := in_get hkL
  rw [hgu] at g1
  have w1 : IntKind.i64.wrap ((u : Int) + 1) = ((u + 1 : Nat) : Int) := wrap_succ (by omega)
  have f1 := in_fit hkL
  have e1 := in_set hkL ((u + 1 : Nat) : Int)
  subst hS
  have hd := ref_disj hnd
  have hhl := (List.getElem?_eq_some_iff.1 hL).1
  have hhb : h ≠ b := fun e => hd.2.1 (by simp [e])
  have hk := Kp.stB (i := h) (S := b :: (s1 ++ [h])) hW (by simp) (nb := ⟨false, blC inC (L.set n ((u + 1 : Nat) : Int))⟩) lows_blC
  refine ⟨setB m h ⟨false, blC inC (L.set n ((u + 1 : Nat) : Int))⟩, ?_, ?_, hk⟩
  · refine givesW_of' Try.func20 rfl (by kernel_rfl) Try.ntmps20 rfl rfl fun Q hQ => ?_
    repeat (first
        | refine tr_seq_k fun _ _ => ?_
        | (refine tr_region ?_; simp only [go_sem, List.getElem?_toArray, str_beq, reduceCtorEq, Nat.reduceEqDiff, Nat.reduceLT, Nat.reduceLeDiff, Nat.reduceAdd, Nat.reduceMul, Nat.reduceSub, Nat.reduceBEq, ↓reduceIte, bne_self_eq_false, Bool.and_false, Bool.false_and, Bool.true_or, Bool.false_or, h1, h2])
        | refine k_of (by assumption) ?_
        | refine tr_block ?_
        | refine tr_scope ?_
        | (refine tr_skip ?_; try simp only [ex_seq, ex_block])
        | (refine tr_label ?_; try simp only [ex_seq, ex_block])
        | (refine tr_exit ?_; try simp only [ex_seq_exit, ex_block_exit, Nat.reduceEqDiff, if_true, if_false, ex_seq, ex_block, reduceCtorEq, ↓reduceIte])
        | (refine tr_ret ?_; try simp only [ex_seq_ret, ex_block_ret]))
    refine tr_cond rfl (fun ht => ?_) (fun hf => ?_)
    · cases ht
    · repeat (first
          | refine tr_seq_k fun _ _ => ?_
          | (refine tr_region ?_; simp only [go_sem, List.getElem?_toArray, str_beq, reduceCtorEq, Nat.reduceEqDiff, Nat.reduceLT, Nat.reduceLeDiff, Nat.reduceAdd, Nat.reduceMul, Nat.reduceSub, Nat.reduceBEq, ↓reduceIte, bne_self_eq_false, Bool.and_false, Bool.false_and, Bool.true_or, Bool.false_or])
          | (refine call_givesW (cf) ?_; (try dsimp only); (try simp only [go_sem, List.getElem?_toArray, str_beq, reduceCtorEq, Nat.reduceEqDiff, Nat.reduceLT, Nat.reduceLeDiff, Nat.reduceAdd, Nat.reduceMul, Nat.reduceSub, Nat.reduceBEq, ↓reduceIte, bne_self_eq_false, Bool.and_false, Bool.false_and, Bool.true_or, Bool.false_or]))
          | refine k_of (by assumption) ?_
          | refine tr_block ?_
          | refine tr_scope ?_
          | (refine tr_skip ?_; try simp only [ex_seq, ex_block])
          | (refine tr_label ?_; try simp only [ex_seq, ex_block])
          | (refine tr_exit ?_; try simp only [ex_seq_exit, ex_block_exit, Nat.reduceEqDiff, if_true, if_false, ex_seq, ex_block, reduceCtorEq, ↓reduceIte])
          | (refine tr_ret ?_; try simp only [ex_seq_ret, ex_block_ret]))
      refine tr_cond rfl (fun ht => ?_) (fun hf => ?_)
      · repeat (first
            | refine tr_seq_k fun _ _ => ?_
            | (refine tr_region ?_; simp only [go_sem, List.getElem?_toArray, str_beq, reduceCtorEq, Nat.reduceEqDiff, Nat.reduceLT, Nat.reduceLeDiff, Nat.reduceAdd, Nat.reduceMul, Nat.reduceSub, Nat.reduceBEq, ↓reduceIte, bne_self_eq_false, Bool.and_false, Bool.false_and, Bool.true_or, Bool.false_or, hb, p1, hL, i1, g1, w1, f1, e1, setB_eq])
            | refine k_of (by assumption) ?_
            | refine tr_block ?_
            | refine tr_scope ?_
            | (refine tr_skip ?_; try simp only [ex_seq, ex_block])
            | (refine tr_label ?_; try simp only [ex_seq, ex_block])
            | (refine tr_exit ?_; try simp only [ex_seq_exit, ex_block_exit, Nat.reduceEqDiff, if_true, if_false, ex_seq, ex_block, reduceCtorEq, ↓reduceIte])
            | (refine tr_ret ?_; try simp only [ex_seq_ret, ex_block_ret]))
        refine (hQ _ _ [iA (n : Nat), iA 0] ?_ rfl rfl).2 <;> simp only [go_sem, List.getElem?_toArray, str_beq, reduceCtorEq, Nat.reduceEqDiff, Nat.reduceLT, Nat.reduceLeDiff, Nat.reduceAdd, Nat.reduceMul, Nat.reduceSub, Nat.reduceBEq, ↓reduceIte, bne_self_eq_false, Bool.and_false, Bool.false_and, Bool.true_or, Bool.false_or, Try.f20]
      · cases hf
  · rw [getD_at hn, he]
    refine ⟨c1, .lsl h 0 (usE E).length 1, s1, [h], ?_, ?_, ?_, rfl, hnd⟩
    · rw [setB_ne hhb]; exact hb
    · rw [txE_set, set_same (l := txE E) (k := n) (by rw [txE_len]; exact hn) (by rw [txE_get, he])]
      exact hT.keep (Kp.stB (i := h) (S := [h]) (nb := ⟨false, blC inC (L.set n ((u + 1 : Nat) : Int))⟩) hW (by simp) lows_blC) (fun i hi h2 => hd.2.2 i hi h2)
    · rw [usE_set]
      exact Or.inr ⟨h, _, by rw [List.length_set], rfl, setB_self hhl _, take_set hEL (by rw [usE_len]; exact hn) _⟩

/-- Where the loop for a free number stops. -/
theorem leastF_stop {E : List Ent} {k : Nat} (hk : k ≤ E.length) (h : ∀ j (hj : j < k) (hE : j < E.length), (E[j]).1 ≠ emp) (he : ∀ hk : k < E.length, (E[k]).1 = emp) : leastF E = k := leastF_of hk he fun j hj => h j hj (by omega)

theorem info_str : info3 Try.prog 9 = some (1, 16) := by kernel_rfl
theorem build1T (s : ByteArray) : aBuildSlice Try.prog 54 1 [(0, sA s)] = some [.v (.string s)] := build1 Try.underlying54 sz9 ze9 (by decide) (by decide) (by decide) rfl rfl
theorem build1J (x : Int) : aBuildSlice Try.prog 55 1 [(0, iA x)] = some [.v (.int .i64 x)] := build1 Try.underlying55 sz3 ze3 (by decide) (by decide) (by decide) rfl rfl
attribute [go_sem] build1T build1J
theorem rdrop_gives {m : Mm} {b : Nat} {E : List Ent} {S : List Nat} (h : RefM m b E S) (hW : Wf m) (n : Int) (hM : E.length ≤ 1000) (hU : ∀ e ∈ E, e.2 ≤ 100000) (hz : ∀ e ∈ E, e.1 ≠ emp → 0 < e.2) :
    ∃ m', GivesW Try.prog 21 [.ptr b 0, iA n] m (iA (dropS E n).1) m' ∧ RefM m' b (dropS E n).2 S ∧ Kp m m' S S := by
  have hh := rhas_gives h n
  have htab := h
  obtain ⟨c1, c2, s1, s2, hb, hT, hR, hS, hnd⟩ := h
  have p1 := hT.plain1
  unfold dropS
  cases h0 : hasS E n with
  | false =>
    rw [h0] at hh
    refine ⟨m, ?_, htab, Kp.refl hW S⟩
    refine givesW_of' Try.func21 rfl (by kernel_rfl) Try.ntmps21 rfl rfl fun Q hQ => ?_
    repeat (first
        | refine tr_seq_k fun _ _ => ?_
        | (refine tr_region ?_; simp only [go_sem, List.getElem?_toArray, str_beq, reduceCtorEq, Nat.reduceEqDiff, Nat.reduceLT, Nat.reduceLeDiff, Nat.reduceAdd, Nat.reduceMul, Nat.reduceSub, Nat.reduceBEq, ↓reduceIte, bne_self_eq_false, Bool.and_false, Bool.false_and, Bool.true_or, Bool.false_or])
        | (refine call_givesW (hh) ?_; (try dsimp only); (try simp only [go_sem, List.getElem?_toArray, str_beq, reduceCtorEq, Nat.reduceEqDiff, Nat.reduceLT, Nat.reduceLeDiff, Nat.reduceAdd, Nat.reduceMul, Nat.reduceSub, Nat.reduceBEq, ↓reduceIte, bne_self_eq_false, Bool.and_false, Bool.false_and, Bool.true_or, Bool.false_or]))
        | refine k_of (by assumption) ?_
        | refine tr_block ?_
        | refine tr_scope ?_
        | (refine tr_skip ?_; try simp only [ex_seq, ex_block])
        | (refine tr_label ?_; try simp only [ex_seq, ex_block])
        | (refine tr_exit ?_; try simp only [ex_seq_exit, ex_block_exit, Nat.reduceEqDiff, if_true, if_false, ex_seq, ex_block, reduceCtorEq, ↓reduceIte])
        | (refine tr_ret ?_; try simp only [ex_seq_ret, ex_block_ret]))
    refine tr_cond rfl (fun ht => ?_) (fun hf => ?_)
    · repeat (first
          | refine tr_seq_k fun _ _ => ?_
          | (refine tr_region ?_; simp only [go_sem, List.getElem?_toArray, str_beq, reduceCtorEq, Nat.reduceEqDiff, Nat.reduceLT, Nat.reduceLeDiff, Nat.reduceAdd, Nat.reduceMul, Nat.reduceSub, Nat.reduceBEq, ↓reduceIte, bne_self_eq_false, Bool.and_false, Bool.false_and, Bool.true_or, Bool.false_or])
          | refine k_of (by assumption) ?_
          | refine tr_block ?_
          | refine tr_scope ?_
          | (refine tr_skip ?_; try simp only [ex_seq, ex_block])
          | (refine tr_label ?_; try simp only [ex_seq, ex_block])
          | (refine tr_exit ?_; try simp only [ex_seq_exit, ex_block_exit, Nat.reduceEqDiff, if_true, if_false, ex_seq, ex_block, reduceCtorEq, ↓reduceIte])
          | (refine tr_ret ?_; try simp only [ex_seq_ret, ex_block_ret]))
      refine (hQ _ _ [iA 13] ?_ rfl rfl).2 <;> simp only [go_sem, List.getElem?_toArray, str_beq, reduceCtorEq, Nat.reduceEqDiff, Nat.reduceLT, Nat.reduceLeDiff, Nat.reduceAdd, Nat.reduceMul, Nat.reduceSub, Nat.reduceBEq, ↓reduceIte, bne_self_eq_false, Bool.and_false, Bool.false_and, Bool.true_or, Bool.false_or, Try.f21]
    · cases hf
  | true =>
    rw [h0] at hh
    obtain ⟨k, rfl, hk, hne⟩ := hasS_spec h0
    obtain ⟨h, L, rfl, rfl, hL, hEL, hkL, hg⟩ := row_getG hR (k := k) (by rw [usE_len]; exact hk)
    obtain ⟨h', L', rfl, rfl, hL', hEL', hkL', hg'⟩ := row_getG hT (k := k) (by rw [txE_len]; exact hk)
    obtain ⟨u, hu⟩ : ∃ u, u = (E[k]).2 := ⟨_, rfl⟩
    have hu0 : 0 < u := by rw [hu]; exact hz _ (List.getElem_mem hk) hne
    have hub : u ≤ 100000 := by rw [hu]; exact hU _ (List.getElem_mem hk)
    have hgu : L[k] = (u : Int) := by rw [hg, usE_get, hu]
    have i1 := in_idx Try.underlying55 (b := h) (n := (usE E).length) (i := k) (by rw [usE_len]; exact hk)
    have g1 := in_get hkL
    rw [hgu] at g1
    have w1 : IntKind.i64.wrap ((u : Int) - 1) = ((u - 1 : Nat) : Int) := wrap_pred hu0 (by omega)
    have f1 := in_fit hkL
    have e1 := in_set hkL ((u - 1 : Nat) : Int)
    have g2 : (blC inC (L.set k ((u - 1 : Nat) : Int)))[k]? = some (iA ((u - 1 : Nat) : Int)) := by
      have := in_get (l := L.set k ((u - 1 : Nat) : Int)) (i := k) (by rw [List.length_set]; exact hkL)
      rw [List.getElem_set_self] at this
      exact this
    subst hS
    have hd := ref_disj hnd
    have hhl := (List.getElem?_eq_some_iff.1 hL).1
    have hhl' := (List.getElem?_eq_some_iff.1 hL').1
    have hhb : h ≠ b := fun e => hd.2.1 (by simp [e])
    have hhb' : h' ≠ b := fun e => hd.1 (by simp [e])
    have hhh : h' ≠ h := fun e => hd.2.2 h' (by simp) (by simp [e])
    have k1 : Kp m (setB m h ⟨false, blC inC (L.set k ((u - 1 : Nat) : Int))⟩) (b :: ([h'] ++ [h])) (b :: ([h'] ++ [h])) := Kp.stB (i := h) hW (by simp) lows_blC
    have gb1 : ∀ x, (setB m h x).hp[b]? = some ⟨false, [.lsl h' 0 (txE E).length 1, .lsl h 0 (usE E).length 1]⟩ := fun x => by rw [setB_ne hhb]; exact hb
    have gh1 : ∀ x, (setB m h x).hp[h]? = some x := fun x => setB_self hhl x
    have gt1 : ∀ x, (setB m h x).hp[h']? = some ⟨false, blC stC L'⟩ := fun x => by rw [setB_ne (Ne.symm hhh)]; exact hL'
    rw [if_pos rfl, Int.toNat_natCast, getD_at hk, ← hu]
    cases h5 : (((u - 1 : Nat) : Int) == 0) with
    | false =>
      have h5' : u ≠ 1 := fun e => by
        rw [e] at h5
        cases h5
      rw [if_neg h5']
      refine ⟨_, ?_, ?_, k1⟩
      · refine givesW_of' Try.func21 rfl (by kernel_rfl) Try.ntmps21 rfl rfl fun Q hQ => ?_
        repeat (first
            | refine tr_seq_k fun _ _ => ?_
            | (refine tr_region ?_; simp only [go_sem, List.getElem?_toArray, str_beq, reduceCtorEq, Nat.reduceEqDiff, Nat.reduceLT, Nat.reduceLeDiff, Nat.reduceAdd, Nat.reduceMul, Nat.reduceSub, Nat.reduceBEq, ↓reduceIte, bne_self_eq_false, Bool.and_false, Bool.false_and, Bool.true_or, Bool.false_or])
            | (refine call_givesW (hh) ?_; (try dsimp only); (try simp only [go_sem, List.getElem?_toArray, str_beq, reduceCtorEq, Nat.reduceEqDiff, Nat.reduceLT, Nat.reduceLeDiff, Nat.reduceAdd, Nat.reduceMul, Nat.reduceSub, Nat.reduceBEq, ↓reduceIte, bne_self_eq_false, Bool.and_false, Bool.false_and, Bool.true_or, Bool.false_or]))
            | refine k_of (by assumption) ?_
            | refine tr_block ?_
            | refine tr_scope ?_
            | (refine tr_skip ?_; try simp only [ex_seq, ex_block])
            | (refine tr_label ?_; try simp only [ex_seq, ex_block])
            | (refine tr_exit ?_; try simp only [ex_seq_exit, ex_block_exit, Nat.reduceEqDiff, if_true, if_false, ex_seq, ex_block, reduceCtorEq, ↓reduceIte])
            | (refine tr_ret ?_; try simp only [ex_seq_ret, ex_block_ret]))
        refine tr_cond rfl (fun ht => ?_) (fun hf => ?_)
        · cases ht
        · repeat (first
              | refine tr_seq_k fun _ _ => ?_
              | (refine tr_region ?_; simp only [go_sem, List.getElem?_toArray, str_beq, reduceCtorEq, Nat.reduceEqDiff, Nat.reduceLT, Nat.reduceLeDiff, Nat.reduceAdd, Nat.reduceMul, Nat.reduceSub, Nat.reduceBEq, ↓reduceIte, bne_self_eq_false, Bool.and_false, Bool.false_and, Bool.true_or, Bool.false_or, hb, hL, i1, g1, w1, f1, e1, setB_eq, gb1, gh1, g2, h5])
              | refine k_of (by assumption) ?_
              | refine tr_block ?_
              | refine tr_scope ?_
              | (refine tr_skip ?_; try simp only [ex_seq, ex_block])
              | (refine tr_label ?_; try simp only [ex_seq, ex_block])
              | (refine tr_exit ?_; try simp only [ex_seq_exit, ex_block_exit, Nat.reduceEqDiff, if_true, if_false, ex_seq, ex_block, reduceCtorEq, ↓reduceIte])
              | (refine tr_ret ?_; try simp only [ex_seq_ret, ex_block_ret]))
          refine tr_cond rfl (fun ht => ?_) (fun hf => ?_)
          · cases ht
          · repeat (first
                | refine tr_seq_k fun _ _ => ?_
                | (refine tr_region ?_; simp only [go_sem, List.getElem?_toArray, str_beq, reduceCtorEq, Nat.reduceEqDiff, Nat.reduceLT, Nat.reduceLeDiff, Nat.reduceAdd, Nat.reduceMul, Nat.reduceSub, Nat.reduceBEq, ↓reduceIte, bne_self_eq_false, Bool.and_false, Bool.false_and, Bool.true_or, Bool.false_or])
                | refine k_of (by assumption) ?_
                | refine tr_block ?_
                | refine tr_scope ?_
                | (refine tr_skip ?_; try simp only [ex_seq, ex_block])
                | (refine tr_label ?_; try simp only [ex_seq, ex_block])
                | (refine tr_exit ?_; try simp only [ex_seq_exit, ex_block_exit, Nat.reduceEqDiff, if_true, if_false, ex_seq, ex_block, reduceCtorEq, ↓reduceIte])
                | (refine tr_ret ?_; try simp only [ex_seq_ret, ex_block_ret]))
            refine (hQ _ _ [iA 0] ?_ rfl rfl).2 <;> simp only [go_sem, List.getElem?_toArray, str_beq, reduceCtorEq, Nat.reduceEqDiff, Nat.reduceLT, Nat.reduceLeDiff, Nat.reduceAdd, Nat.reduceMul, Nat.reduceSub, Nat.reduceBEq, ↓reduceIte, bne_self_eq_false, Bool.and_false, Bool.false_and, Bool.true_or, Bool.false_or, Try.f21]
      · refine ⟨.lsl h' 0 (txE E).length 1, .lsl h 0 (usE E).length 1, [h'], [h], gb1 _, ?_, ?_, rfl, hnd⟩
        · rw [txE_set, set_same (l := txE E) (k := k) (by rw [txE_len]; exact hk) (by rw [txE_get])]
          exact Or.inr ⟨h', L', rfl, rfl, gt1 _, hEL'⟩
        · rw [usE_set]
          exact Or.inr ⟨h, _, by rw [List.length_set], rfl, gh1 _, take_set hEL (by rw [usE_len]; exact hk) _⟩
    | true =>
      have h5' : u = 1 := by
        have := eq_of_beq h5
        omega
      rw [if_pos h5']
      have i2 := st_idx (b := h') (n := (txE E).length) (i := k) (by rw [txE_len]; exact hk)
      have f2 := st_fit hkL'
      have e2 := st_set hkL' ⟨#[]⟩
      have k2 := k1.put (i := h') (nb := ⟨false, blC stC (L'.set k ⟨#[]⟩)⟩) (by simp) lows_blC
      refine ⟨_, ?_, ?_, k2⟩
      · refine givesW_of' Try.func21 rfl (by kernel_rfl) Try.ntmps21 rfl rfl fun Q hQ => ?_
        repeat (first
            | refine tr_seq_k fun _ _ => ?_
            | (refine tr_region ?_; simp only [go_sem, List.getElem?_toArray, str_beq, reduceCtorEq, Nat.reduceEqDiff, Nat.reduceLT, Nat.reduceLeDiff, Nat.reduceAdd, Nat.reduceMul, Nat.reduceSub, Nat.reduceBEq, ↓reduceIte, bne_self_eq_false, Bool.and_false, Bool.false_and, Bool.true_or, Bool.false_or])
            | (refine call_givesW (hh) ?_; (try dsimp only); (try simp only [go_sem, List.getElem?_toArray, str_beq, reduceCtorEq, Nat.reduceEqDiff, Nat.reduceLT, Nat.reduceLeDiff, Nat.reduceAdd, Nat.reduceMul, Nat.reduceSub, Nat.reduceBEq, ↓reduceIte, bne_self_eq_false, Bool.and_false, Bool.false_and, Bool.true_or, Bool.false_or]))
            | refine k_of (by assumption) ?_
            | refine tr_block ?_
            | refine tr_scope ?_
            | (refine tr_skip ?_; try simp only [ex_seq, ex_block])
            | (refine tr_label ?_; try simp only [ex_seq, ex_block])
            | (refine tr_exit ?_; try simp only [ex_seq_exit, ex_block_exit, Nat.reduceEqDiff, if_true, if_false, ex_seq, ex_block, reduceCtorEq, ↓reduceIte])
            | (refine tr_ret ?_; try simp only [ex_seq_ret, ex_block_ret]))
        refine tr_cond rfl (fun ht => ?_) (fun hf => ?_)
        · cases ht
        · repeat (first
              | refine tr_seq_k fun _ _ => ?_
              | (refine tr_region ?_; simp only [go_sem, List.getElem?_toArray, str_beq, reduceCtorEq, Nat.reduceEqDiff, Nat.reduceLT, Nat.reduceLeDiff, Nat.reduceAdd, Nat.reduceMul, Nat.reduceSub, Nat.reduceBEq, ↓reduceIte, bne_self_eq_false, Bool.and_false, Bool.false_and, Bool.true_or, Bool.false_or, hb, hL, i1, g1, w1, f1, e1, setB_eq, gb1, gh1, g2, h5])
              | refine k_of (by assumption) ?_
              | refine tr_block ?_
              | refine tr_scope ?_
              | (refine tr_skip ?_; try simp only [ex_seq, ex_block])
              | (refine tr_label ?_; try simp only [ex_seq, ex_block])
              | (refine tr_exit ?_; try simp only [ex_seq_exit, ex_block_exit, Nat.reduceEqDiff, if_true, if_false, ex_seq, ex_block, reduceCtorEq, ↓reduceIte])
              | (refine tr_ret ?_; try simp only [ex_seq_ret, ex_block_ret]))
          refine tr_cond rfl (fun ht => ?_) (fun hf => ?_)
          · repeat (first
                | refine tr_seq_k fun _ _ => ?_
                | (refine tr_region ?_; simp only [go_sem, List.getElem?_toArray, str_beq, reduceCtorEq, Nat.reduceEqDiff, Nat.reduceLT, Nat.reduceLeDiff, Nat.reduceAdd, Nat.reduceMul, Nat.reduceSub, Nat.reduceBEq, ↓reduceIte, bne_self_eq_false, Bool.and_false, Bool.false_and, Bool.true_or, Bool.false_or, gb1, gt1, i2, f2, e2, setB_eq])
                | refine k_of (by assumption) ?_
                | refine tr_block ?_
                | refine tr_scope ?_
                | (refine tr_skip ?_; try simp only [ex_seq, ex_block])
                | (refine tr_label ?_; try simp only [ex_seq, ex_block])
                | (refine tr_exit ?_; try simp only [ex_seq_exit, ex_block_exit, Nat.reduceEqDiff, if_true, if_false, ex_seq, ex_block, reduceCtorEq, ↓reduceIte])
                | (refine tr_ret ?_; try simp only [ex_seq_ret, ex_block_ret]))
            refine (hQ _ _ [iA 0] ?_ rfl rfl).2 <;> simp only [go_sem, List.getElem?_toArray, str_beq, reduceCtorEq, Nat.reduceEqDiff, Nat.reduceLT, Nat.reduceLeDiff, Nat.reduceAdd, Nat.reduceMul, Nat.reduceSub, Nat.reduceBEq, ↓reduceIte, bne_self_eq_false, Bool.and_false, Bool.false_and, Bool.true_or, Bool.false_or, Try.f21]
          · cases hf
      · refine ⟨.lsl h' 0 (txE E).length 1, .lsl h 0 (usE E).length 1, [h'], [h], ?_, ?_, ?_, rfl, hnd⟩
        · rw [setB_ne hhb']; exact gb1 _
        · rw [txE_set]
          refine Or.inr ⟨h', _, by rw [List.length_set], rfl, setB_self (by rw [setB_len]; exact hhl') _, take_set hEL' (by rw [txE_len]; exact hk) _⟩
        · rw [usE_set]
          have e0 : ((u - 1 : Nat) : Int) = ((0 : Nat) : Int) := by omega
          refine Or.inr ⟨h, L.set k ((0 : Nat) : Int), by rw [List.length_set], rfl, ?_, take_set hEL (by rw [usE_len]; exact hk) _⟩
          rw [setB_ne hhh, gh1, e0]
end Go.Proofs.Ytlhlcfijpdknfaa

/-
  Chapter 2, the document's answer: Take of a text that is new.
-/
set_option linter.unusedSimpArgs false
set_option linter.unusedVariables false
namespace Go.Proofs.Ytlhlcfijpdknfaa
open Go.Vs Go.Vs.Ab Go.Vs.Hp Go.Vs.Tb
set_option maxRecDepth 100000
set_option maxHeartbeats 4000000

/-- The orders of the two appends, of the two stores. -/
def otApp : OT := .one 0 (.one 1 (.one 2 (.one 3 (.one 4 (.one 8 (.one 9 (.one 10 (.br 5 (.br 6 (.br 7 (.br 11 (.br 12 (.br 13 (.one 14 (.one 15 (.br 16 (.one 17 (.one 18 (.br 19 (.fin) (.stop)))) (.stop)))) (.stop)) (.stop)) (.br 12 (.br 11 (.br 13 (.one 14 (.one 15 (.br 16 (.one 17 (.one 18 (.br 19 (.fin) (.stop)))) (.stop)))) (.stop)) (.stop)) (.stop))) (.br 11 (.br 7 (.br 12 (.br 13 (.one 14 (.one 15 (.br 16 (.one 17 (.one 18 (.br 19 (.fin) (.stop)))) (.stop)))) (.stop)) (.stop)) (.br 12 (.br 7 (.br 13 (.one 14 (.one 15 (.br 16 (.one 17 (.one 18 (.br 19 (.fin) (.stop)))) (.stop)))) (.stop)) (.stop)) (.stop))) (.br 12 (.br 7 (.br 11 (.br 13 (.one 14 (.one 15 (.br 16 (.one 17 (.one 18 (.br 19 (.fin) (.stop)))) (.stop)))) (.stop)) (.stop)) (.br 11 (.br 7 (.br 13 (.one 14 (.one 15 (.br 16 (.one 17 (.one 18 (.br 19 (.fin) (.stop)))) (.stop)))) (.stop)) (.stop)) (.stop))) (.stop)))) (.br 11 (.br 6 (.br 7 (.br 12 (.br 13 (.one 14 (.one 15 (.br 16 (.one 17 (.one 18 (.br 19 (.fin) (.stop)))) (.stop)))) (.stop)) (.stop)) (.br 12 (.br 7 (.br 13 (.one 14 (.one 15 (.br 16 (.one 17 (.one 18 (.br 19 (.fin) (.stop)))) (.stop)))) (.stop)) (.stop)) (.stop))) (.br 12 (.br 6 (.br 7 (.br 13 (.one 14 (.one 15 (.br 16 (.one 17 (.one 18 (.br 19 (.fin) (.stop)))) (.stop)))) (.stop)) (.stop)) (.stop)) (.stop))) (.br 12 (.br 6 (.br 7 (.br 11 (.br 13 (.one 14 (.one 15 (.br 16 (.one 17 (.one 18 (.br 19 (.fin) (.stop)))) (.stop)))) (.stop)) (.stop)) (.br 11 (.br 7 (.br 13 (.one 14 (.one 15 (.br 16 (.one 17 (.one 18 (.br 19 (.fin) (.stop)))) (.stop)))) (.stop)) (.stop)) (.stop))) (.br 11 (.br 6 (.br 7 (.br 13 (.one 14 (.one 15 (.br 16 (.one 17 (.one 18 (.br 19 (.fin) (.stop)))) (.stop)))) (.stop)) (.stop)) (.stop)) (.stop))) (.stop)))) (.br 6 (.br 5 (.br 7 (.br 11 (.br 12 (.br 13 (.one 14 (.one 15 (.br 16 (.one 17 (.one 18 (.br 19 (.fin) (.stop)))) (.stop)))) (.stop)) (.stop)) (.br 12 (.br 11 (.br 13 (.one 14 (.one 15 (.br 16 (.one 17 (.one 18 (.br 19 (.fin) (.stop)))) (.stop)))) (.stop)) (.stop)) (.stop))) (.br 11 (.br 7 (.br 12 (.br 13 (.one 14 (.one 15 (.br 16 (.one 17 (.one 18 (.br 19 (.fin) (.stop)))) (.stop)))) (.stop)) (.stop)) (.br 12 (.br 7 (.br 13 (.one 14 (.one 15 (.br 16 (.one 17 (.one 18 (.br 19 (.fin) (.stop)))) (.stop)))) (.stop)) (.stop)) (.stop))) (.br 12 (.br 7 (.br 11 (.br 13 (.one 14 (.one 15 (.br 16 (.one 17 (.one 18 (.br 19 (.fin) (.stop)))) (.stop)))) (.stop)) (.stop)) (.br 11 (.br 7 (.br 13 (.one 14 (.one 15 (.br 16 (.one 17 (.one 18 (.br 19 (.fin) (.stop)))) (.stop)))) (.stop)) (.stop)) (.stop))) (.stop)))) (.br 11 (.br 5 (.br 7 (.br 12 (.br 13 (.one 14 (.one 15 (.br 16 (.one 17 (.one 18 (.br 19 (.fin) (.stop)))) (.stop)))) (.stop)) (.stop)) (.br 12 (.br 7 (.br 13 (.one 14 (.one 15 (.br 16 (.one 17 (.one 18 (.br 19 (.fin) (.stop)))) (.stop)))) (.stop)) (.stop)) (.stop))) (.br 12 (.br 5 (.br 7 (.br 13 (.one 14 (.one 15 (.br 16 (.one 17 (.one 18 (.br 19 (.fin) (.stop)))) (.stop)))) (.stop)) (.stop)) (.stop)) (.stop))) (.br 12 (.br 5 (.br 7 (.br 11 (.br 13 (.one 14 (.one 15 (.br 16 (.one 17 (.one 18 (.br 19 (.fin) (.stop)))) (.stop)))) (.stop)) (.stop)) (.br 11 (.br 7 (.br 13 (.one 14 (.one 15 (.br 16 (.one 17 (.one 18 (.br 19 (.fin) (.stop)))) (.stop)))) (.stop)) (.stop)) (.stop))) (.br 11 (.br 5 (.br 7 (.br 13 (.one 14 (.one 15 (.br 16 (.one 17 (.one 18 (.br 19 (.fin) (.stop)))) (.stop)))) (.stop)) (.stop)) (.stop)) (.stop))) (.stop)))) (.br 11 (.br 5 (.br 6 (.br 7 (.br 12 (.br 13 (.one 14 (.one 15 (.br 16 (.one 17 (.one 18 (.br 19 (.fin) (.stop)))) (.stop)))) (.stop)) (.stop)) (.br 12 (.br 7 (.br 13 (.one 14 (.one 15 (.br 16 (.one 17 (.one 18 (.br 19 (.fin) (.stop)))) (.stop)))) (.stop)) (.stop)) (.stop))) (.br 12 (.br 6 (.br 7 (.br 13 (.one 14 (.one 15 (.br 16 (.one 17 (.one 18 (.br 19 (.fin) (.stop)))) (.stop)))) (.stop)) (.stop)) (.stop)) (.stop))) (.br 6 (.br 5 (.br 7 (.br 12 (.br 13 (.one 14 (.one 15 (.br 16 (.one 17 (.one 18 (.br 19 (.fin) (.stop)))) (.stop)))) (.stop)) (.stop)) (.br 12 (.br 7 (.br 13 (.one 14 (.one 15 (.br 16 (.one 17 (.one 18 (.br 19 (.fin) (.stop)))) (.stop)))) (.stop)) (.stop)) (.stop))) (.br 12 (.br 5 (.br 7 (.br 13 (.one 14 (.one 15 (.br 16 (.one 17 (.one 18 (.br 19 (.fin) (.stop)))) (.stop)))) (.stop)) (.stop)) (.stop)) (.stop))) (.br 12 (.br 5 (.br 6 (.br 7 (.br 13 (.one 14 (.one 15 (.br 16 (.one 17 (.one 18 (.br 19 (.fin) (.stop)))) (.stop)))) (.stop)) (.stop)) (.stop)) (.br 6 (.br 5 (.br 7 (.br 13 (.one 14 (.one 15 (.br 16 (.one 17 (.one 18 (.br 19 (.fin) (.stop)))) (.stop)))) (.stop)) (.stop)) (.stop)) (.stop))) (.stop)))) (.br 12 (.br 5 (.br 6 (.br 7 (.br 11 (.br 13 (.one 14 (.one 15 (.br 16 (.one 17 (.one 18 (.br 19 (.fin) (.stop)))) (.stop)))) (.stop)) (.stop)) (.br 11 (.br 7 (.br 13 (.one 14 (.one 15 (.br 16 (.one 17 (.one 18 (.br 19 (.fin) (.stop)))) (.stop)))) (.stop)) (.stop)) (.stop))) (.br 11 (.br 6 (.br 7 (.br 13 (.one 14 (.one 15 (.br 16 (.one 17 (.one 18 (.br 19 (.fin) (.stop)))) (.stop)))) (.stop)) (.stop)) (.stop)) (.stop))) (.br 6 (.br 5 (.br 7 (.br 11 (.br 13 (.one 14 (.one 15 (.br 16 (.one 17 (.one 18 (.br 19 (.fin) (.stop)))) (.stop)))) (.stop)) (.stop)) (.br 11 (.br 7 (.br 13 (.one 14 (.one 15 (.br 16 (.one 17 (.one 18 (.br 19 (.fin) (.stop)))) (.stop)))) (.stop)) (.stop)) (.stop))) (.br 11 (.br 5 (.br 7 (.br 13 (.one 14 (.one 15 (.br 16 (.one 17 (.one 18 (.br 19 (.fin) (.stop)))) (.stop)))) (.stop)) (.stop)) (.stop)) (.stop))) (.br 11 (.br 5 (.br 6 (.br 7 (.br 13 (.one 14 (.one 15 (.br 16 (.one 17 (.one 18 (.br 19 (.fin) (.stop)))) (.stop)))) (.stop)) (.stop)) (.stop)) (.br 6 (.br 5 (.br 7 (.br 13 (.one 14 (.one 15 (.br 16 (.one 17 (.one 18 (.br 19 (.fin) (.stop)))) (.stop)))) (.stop)) (.stop)) (.stop)) (.stop))) (.stop)))) (.stop))))))))))))
def otSet : OT := .one 0 (.one 1 (.one 2 (.one 4 (.one 5 (.one 6 (.one 7 (.one 9 (.one 10 (.br 3 (.br 8 (.one 11 (.br 12 (.one 13 (.br 14 (.fin) (.stop))) (.stop))) (.stop)) (.br 8 (.br 3 (.one 11 (.br 12 (.one 13 (.br 14 (.fin) (.stop))) (.stop))) (.stop)) (.stop)))))))))))

theorem rtake_new {m : Mm} {b : Nat} {E : List Ent} {S : List Nat} (h : RefM m b E S) (hW : Wf m) (hM : E.length ≤ 1000) {s : ByteArray} (hs : ¬ (s.size < 1 ∨ 255 < s.size)) (hf : findS E s = none) :
    ∃ m' S', GivesW Try.prog 20 [.ptr b 0, sA s] m (.tup [iA (leastF E : Nat), iA 0]) m' ∧ RefM m' b (if leastF E = E.length then E ++ [(s, 1)] else E.set (leastF E) (s, 1)) S' ∧ Kp m m' S S' := by
  have hlt := h.lt
  have cf := rfind_gives h hW hM s
  rw [hf] at cf
  have cf : GivesW Try.prog 23 [.ptr b 0, sA s] m (.tup [iA ((0 : Nat) : Int), bA false]) m := cf
  have cl := rlen_gives h hW hM
  have hlv : liveN E ≤ 1000 := Nat.le_trans (liveN_le E) hM
  obtain ⟨c1, c2, s1, s2, hb, hT, hR, hS, hnd⟩ := h
  have h1 : decide ((s.size : Int) < 1) = false := decide_eq_false (by omega)
  have h2 : decide ((255 : Int) < (s.size : Nat)) = false := decide_eq_false (by omega)
  have h3 : decide ((65536 : Int) ≤ (liveN E : Nat)) = false := decide_eq_false (by omega)
  have p1 := hT.plain1
  have p2 := hR.plain1
  have z0 : ((0 : Nat) : Int) = 0 := rfl
  subst hS
  have hd := ref_disj hnd
  have hbl := (List.getElem?_eq_some_iff.1 hb).1
  generalize hn : leastF E = n
  have hnl : n ≤ E.length := by rw [← hn]; exact leastF_le E
  by_cases hc : n = E.length
  · rw [if_pos hc]
    subst hc
    obtain ⟨m1, ha1, hn1, hl1, k1⟩ := row_app (e := 9) st_hk (by decide) Try.underlying54 info_str hT hW (⟨#[]⟩ : ByteArray) (ex := true) (by rw [txE_len]; omega) (by rw [txE_len]; unfold maxLen; omega)
    have hR1 : RowAt m1 inC 1 c2 (usE E) s2 := hR.keep k1 (fun i hi h => hd.2.2 i h hi)
    obtain ⟨m2, ha2, hn2, hl2, k2⟩ := row_app (e := 3) in_hk (by decide) Try.underlying55 info_int hR1 k1.wf (0 : Int) (ex := true) (by rw [usE_len]; omega) (by rw [usE_len]; unfold maxLen; omega)
    generalize hh1 : m.hp.length = h1' at *
    generalize hh2 : m1.hp.length = h2' at *
    have hbA : m1.hp[b]? = some ⟨false, [c1, c2]⟩ := k1.old b _ hd.1 hb
    have hbB : m2.hp[b]? = some ⟨false, [c1, c2]⟩ := k2.old b _ hd.2.1 hbA
    have hbl2 := (List.getElem?_eq_some_iff.1 hbB).1
    have hnA : m2.hp[h1']? = some ⟨false, blC stC (txE E ++ [⟨#[]⟩])⟩ := k2.old h1' _ (fun hin => by
      rcases hR with ⟨_, _, q⟩ | ⟨_, _, _, q, q2, _⟩
      · rw [q] at hin; cases hin
      · rw [q] at hin
        have := (List.getElem?_eq_some_iff.1 q2).1
        simp at hin
        omega) hn1
    have hlT : (txE E).length = E.length := txE_len E
    have hlU : (usE E).length = E.length := usE_len E
    rw [hlT] at ha1
    rw [hlU] at ha2
    have ha1' : aAppendL Try.prog m 54 c1 (.c (.sl true 1 [.v (.string ⟨#[]⟩)])) = some (.lsl h1' 0 (E.length + 1) 1, m1) := ha1
    have ha2' : aAppendL Try.prog m1 55 c2 (.c (.sl true 1 [.v (.int .i64 0)])) = some (.lsl h2' 0 (E.length + 1) 1, m2) := ha2
    have hne1 : h1' ≠ b := by omega
    have hne2 : h2' ≠ b := by omega
    have hne12 : h1' ≠ h2' := by omega
    have hl1' := (List.getElem?_eq_some_iff.1 hnA).1
    have hl2' := (List.getElem?_eq_some_iff.1 hn2).1
    have gX : ∀ x, (setB m2 b x).hp[b]? = some x := fun x => setB_self hbl2 x
    have gXX : ∀ x y, (setB (setB m2 b x) b y).hp[b]? = some y := fun x y => setB_self (by rw [setB_len]; exact hbl2) y
    have gX1 : ∀ x y, (setB (setB m2 b x) b y).hp[h1']? = some ⟨false, blC stC (txE E ++ [⟨#[]⟩])⟩ := fun x y => by rw [setB_ne (Ne.symm hne1), setB_ne (Ne.symm hne1)]; exact hnA
    have gX2 : ∀ x y, (setB (setB m2 b x) b y).hp[h2']? = some ⟨false, blC inC (usE E ++ [0])⟩ := fun x y => by rw [setB_ne (Ne.symm hne2), setB_ne (Ne.symm hne2)]; exact hn2
    have gX2' : ∀ x y z, (setB (setB (setB m2 b x) b y) h1' z).hp[h2']? = some ⟨false, blC inC (usE E ++ [0])⟩ := fun x y z => by rw [setB_ne hne12]; exact gX2 x y
    have gXb' : ∀ x y z, (setB (setB (setB m2 b x) b y) h1' z).hp[b]? = some y := fun x y z => by rw [setB_ne hne1]; exact gXX x y
    have i1 := st_idx (b := h1') (n := E.length + 1) (i := E.length) (by omega)
    have i2 := in_idx Try.underlying55 (b := h2') (n := E.length + 1) (i := E.length) (by omega)
    have f1 := st_fit (L := txE E ++ [(⟨#[]⟩ : ByteArray)]) (i := E.length) (by simp [txE_len])
    have f2 := in_fit (l := usE E ++ [0]) (i := E.length) (by simp [usE_len])
    have e1 := st_set (L := txE E ++ [(⟨#[]⟩ : ByteArray)]) (i := E.length) (by simp [txE_len]) s
    have e2 := in_set (l := usE E ++ [0]) (i := E.length) (by simp [usE_len]) 1
    have e1' : (txE E ++ [(⟨#[]⟩ : ByteArray)]).set E.length s = txE E ++ [s] := by rw [← hlT]; simp
    have e2' : (usE E ++ [0]).set E.length 1 = usE E ++ [1] := by rw [← hlU]; simp
    rw [e1'] at e1
    rw [e2'] at e2
    have k0 : Kp m m2 (b :: (s1 ++ s2)) (b :: ([h1'] ++ [h2'])) := (k1.mono (S2 := b :: (s1 ++ s2)) (S2' := b :: (h1' :: s2)) (fun i hi => by simp [hi]) (fun i hi => by
      simp only [List.mem_cons, List.mem_append, List.not_mem_nil, or_false] at hi ⊢
      rcases hi with hi | hi | hi
      · exact Or.inr (Or.inl hi)
      · exact Or.inl hi
      · exact Or.inr (Or.inr (Or.inr hi)))).trans (k2.mono (fun i hi => by simp [hi]) (fun i hi => by
      simp only [List.mem_cons, List.mem_append, List.not_mem_nil, or_false] at hi ⊢
      rcases hi with hi | hi | hi
      · exact Or.inr (Or.inl hi)
      · exact Or.inr (Or.inr (Or.inl hi))
      · exact Or.inl hi))
    have w2 := k2.wf
    have lowc2 : low m2.hp.length m2.hw.length c2 = true := low_mono (by omega) (Nat.le_refl _) (hR1.low m2.hw.length)
    have kF := (((k0.put (i := b) (nb := ⟨false, [.lsl h1' 0 (E.length + 1) 1, c2]⟩) (by simp) (by simp only [lows, low, Bool.and_true, Bool.and_eq_true, Nat.blt_eq]; exact And.intro hl1' lowc2)).put (i := b) (nb := ⟨false, [.lsl h1' 0 (E.length + 1) 1, .lsl h2' 0 (E.length + 1) 1]⟩) (by simp) (by simp only [lows, low, Bool.and_true, Bool.and_eq_true, Nat.blt_eq, setB_len]; exact And.intro hl1' hl2')).put (i := h1') (nb := ⟨false, blC stC (txE E ++ [s])⟩) (by simp) lows_blC).put (i := h2') (nb := ⟨false, blC inC (usE E ++ [1])⟩) (by simp) lows_blC
    refine ⟨_, _, ?_, ?_, kF⟩
    · refine givesW_of' Try.func20 rfl (by kernel_rfl) Try.ntmps20 rfl rfl fun Q hQ => ?_
      repeat (first
          | refine tr_seq_k fun _ _ => ?_
          | (refine tr_region ?_; simp only [go_sem, List.getElem?_toArray, str_beq, reduceCtorEq, Nat.reduceEqDiff, Nat.reduceLT, Nat.reduceLeDiff, Nat.reduceAdd, Nat.reduceMul, Nat.reduceSub, Nat.reduceBEq, ↓reduceIte, bne_self_eq_false, Bool.and_false, Bool.false_and, Bool.true_or, Bool.false_or, h1, h2])
          | refine k_of (by assumption) ?_
          | refine tr_block ?_
          | refine tr_scope ?_
          | (refine tr_skip ?_; try simp only [ex_seq, ex_block])
          | (refine tr_label ?_; try simp only [ex_seq, ex_block])
          | (refine tr_exit ?_; try simp only [ex_seq_exit, ex_block_exit, Nat.reduceEqDiff, if_true, if_false, ex_seq, ex_block, reduceCtorEq, ↓reduceIte])
          | (refine tr_ret ?_; try simp only [ex_seq_ret, ex_block_ret]))
      refine tr_cond rfl (fun ht => ?_) (fun hf => ?_)
      · cases ht
      · repeat (first
            | refine tr_seq_k fun _ _ => ?_
            | (refine tr_region ?_; simp only [go_sem, List.getElem?_toArray, str_beq, reduceCtorEq, Nat.reduceEqDiff, Nat.reduceLT, Nat.reduceLeDiff, Nat.reduceAdd, Nat.reduceMul, Nat.reduceSub, Nat.reduceBEq, ↓reduceIte, bne_self_eq_false, Bool.and_false, Bool.false_and, Bool.true_or, Bool.false_or])
            | (refine call_givesW (cf) ?_; (try dsimp only); (try simp only [go_sem, List.getElem?_toArray, str_beq, reduceCtorEq, Nat.reduceEqDiff, Nat.reduceLT, Nat.reduceLeDiff, Nat.reduceAdd, Nat.reduceMul, Nat.reduceSub, Nat.reduceBEq, ↓reduceIte, bne_self_eq_false, Bool.and_false, Bool.false_and, Bool.true_or, Bool.false_or]))
            | refine k_of (by assumption) ?_
            | refine tr_block ?_
            | refine tr_scope ?_
            | (refine tr_skip ?_; try simp only [ex_seq, ex_block])
            | (refine tr_label ?_; try simp only [ex_seq, ex_block])
            | (refine tr_exit ?_; try simp only [ex_seq_exit, ex_block_exit, Nat.reduceEqDiff, if_true, if_false, ex_seq, ex_block, reduceCtorEq, ↓reduceIte])
            | (refine tr_ret ?_; try simp only [ex_seq_ret, ex_block_ret]))
        refine tr_cond rfl (fun ht => ?_) (fun hf => ?_)
        · cases ht
        · repeat (first
              | refine tr_seq_k fun _ _ => ?_
              | (refine tr_region ?_; simp only [go_sem, List.getElem?_toArray, str_beq, reduceCtorEq, Nat.reduceEqDiff, Nat.reduceLT, Nat.reduceLeDiff, Nat.reduceAdd, Nat.reduceMul, Nat.reduceSub, Nat.reduceBEq, ↓reduceIte, bne_self_eq_false, Bool.and_false, Bool.false_and, Bool.true_or, Bool.false_or, h3])
              | (refine call_givesW (cl) ?_; (try dsimp only); (try simp only [go_sem, List.getElem?_toArray, str_beq, reduceCtorEq, Nat.reduceEqDiff, Nat.reduceLT, Nat.reduceLeDiff, Nat.reduceAdd, Nat.reduceMul, Nat.reduceSub, Nat.reduceBEq, ↓reduceIte, bne_self_eq_false, Bool.and_false, Bool.false_and, Bool.true_or, Bool.false_or, h3]))
              | refine k_of (by assumption) ?_
              | refine tr_block ?_
              | refine tr_scope ?_
              | (refine tr_skip ?_; try simp only [ex_seq, ex_block])
              | (refine tr_label ?_; try simp only [ex_seq, ex_block])
              | (refine tr_exit ?_; try simp only [ex_seq_exit, ex_block_exit, Nat.reduceEqDiff, if_true, if_false, ex_seq, ex_block, reduceCtorEq, ↓reduceIte])
              | (refine tr_ret ?_; try simp only [ex_seq_ret, ex_block_ret]))
          refine tr_cond rfl (fun ht => ?_) (fun hf => ?_)
          · cases ht
          · repeat (first
                | refine tr_seq_k fun _ _ => ?_
                | (refine tr_region ?_; simp only [go_sem, List.getElem?_toArray, str_beq, reduceCtorEq, Nat.reduceEqDiff, Nat.reduceLT, Nat.reduceLeDiff, Nat.reduceAdd, Nat.reduceMul, Nat.reduceSub, Nat.reduceBEq, ↓reduceIte, bne_self_eq_false, Bool.and_false, Bool.false_and, Bool.true_or, Bool.false_or])
                | refine k_of (by assumption) ?_
                | refine tr_block ?_
                | refine tr_scope ?_
                | (refine tr_skip ?_; try simp only [ex_seq, ex_block])
                | (refine tr_label ?_; try simp only [ex_seq, ex_block])
                | (refine tr_exit ?_; try simp only [ex_seq_exit, ex_block_exit, Nat.reduceEqDiff, if_true, if_false, ex_seq, ex_block, reduceCtorEq, ↓reduceIte])
                | (refine tr_ret ?_; try simp only [ex_seq_ret, ex_block_ret]))
            refine tr_loop_k (σ := Nat) (fun k => [(0, .ptr b 0), (1, sA s), (6, iA k)]) (fun _ => m) (fun k => k ≤ E.length) (fun k => E.length - k) 0 (Nat.zero_le _) ⟨rfl, rfl, rfl, trivial⟩ rfl ?_
            rintro k hk K hK
            by_cases hkl : k < E.length
            · obtain ⟨h', L', rfl, rfl, hL', hEL', hkL', hg'⟩ := row_getG hT (k := k) (by rw [txE_len]; exact hkl)
              have d1 : decide ((k : Int) < (((txE E).length : Nat) : Int)) = true := decide_eq_true (by omega)
              have i1 := st_idx (b := h') (n := (txE E).length) (i := k) (by omega)
              have g1 := st_get hkL'
              have hge : (E[k]).1 = L'[k] := by rw [hg', txE_get]
              have ws := wrap_succ (show k ≤ 1000000000 by omega)
              have d2 : decide (L'[k] = ⟨#[]⟩) = false := decide_eq_false (by
                rw [← hge]
                exact leastF_all (by omega) k hkl)
              repeat (first
                  | refine tr_seq_k fun _ _ => ?_
                  | (refine tr_region ?_; simp only [go_sem, List.getElem?_toArray, str_beq, reduceCtorEq, Nat.reduceEqDiff, Nat.reduceLT, Nat.reduceLeDiff, Nat.reduceAdd, Nat.reduceMul, Nat.reduceSub, Nat.reduceBEq, ↓reduceIte, bne_self_eq_false, Bool.and_false, Bool.false_and, Bool.true_or, Bool.false_or, hb, d1, hL', i1, g1, d2])
                  | refine k_of (by assumption) ?_
                  | refine tr_block ?_
                  | refine tr_scope ?_
                  | (refine tr_skip ?_; try simp only [ex_seq, ex_block])
                  | (refine tr_label ?_; try simp only [ex_seq, ex_block])
                  | (refine tr_exit ?_; try simp only [ex_seq_exit, ex_block_exit, Nat.reduceEqDiff, if_true, if_false, ex_seq, ex_block, reduceCtorEq, ↓reduceIte])
                  | (refine tr_ret ?_; try simp only [ex_seq_ret, ex_block_ret]))
              refine tr_cond rfl (fun ht => ?_) (fun hf => ?_)
              · repeat (first
                    | refine tr_seq_k fun _ _ => ?_
                    | (refine tr_region ?_; simp only [go_sem, List.getElem?_toArray, str_beq, reduceCtorEq, Nat.reduceEqDiff, Nat.reduceLT, Nat.reduceLeDiff, Nat.reduceAdd, Nat.reduceMul, Nat.reduceSub, Nat.reduceBEq, ↓reduceIte, bne_self_eq_false, Bool.and_false, Bool.false_and, Bool.true_or, Bool.false_or, ws])
                    | refine k_of (by assumption) ?_
                    | refine tr_block ?_
                    | refine tr_scope ?_
                    | (refine tr_skip ?_; try simp only [ex_seq, ex_block])
                    | (refine tr_label ?_; try simp only [ex_seq, ex_block])
                    | (refine tr_exit ?_; try simp only [ex_seq_exit, ex_block_exit, Nat.reduceEqDiff, if_true, if_false, ex_seq, ex_block, reduceCtorEq, ↓reduceIte])
                    | (refine tr_ret ?_; try simp only [ex_seq_ret, ex_block_ret]))
                exact hK (k + 1) _ _ (by omega) ⟨⟨rfl, rfl, rfl, trivial⟩, Keep.refl _, by simp only [lowF, low, Bool.and_true, Bool.true_and, Nat.blt_eq]; omega, hW, Nat.le_refl _, Nat.le_refl _⟩ (by omega)
              · cases hf
            · obtain rfl : k = E.length := by omega
              have d1 : decide (((E.length : Nat) : Int) < (((txE E).length : Nat) : Int)) = false := decide_eq_false (by omega)
              have nd : (((E.length : Nat) : Int) == (((txE E).length : Nat) : Int)) = true := by rw [beq_iff_eq]; omega
              rcases slV_row hT with ⟨cs, hv, hv2⟩ | ⟨b', hv, hv2⟩
              · repeat (first
                    | refine tr_seq_k fun _ _ => ?_
                    | (refine tr_region ?_; simp only [go_sem, List.getElem?_toArray, str_beq, reduceCtorEq, Nat.reduceEqDiff, Nat.reduceLT, Nat.reduceLeDiff, Nat.reduceAdd, Nat.reduceMul, Nat.reduceSub, Nat.reduceBEq, ↓reduceIte, bne_self_eq_false, Bool.and_false, Bool.false_and, Bool.true_or, Bool.false_or, hb, d1, p1, hv, hv2])
                    | refine k_of (by assumption) ?_
                    | refine tr_block ?_
                    | refine tr_scope ?_
                    | (refine tr_skip ?_; try simp only [ex_seq, ex_block])
                    | (refine tr_label ?_; try simp only [ex_seq, ex_block])
                    | (refine tr_exit ?_; try simp only [ex_seq_exit, ex_block_exit, Nat.reduceEqDiff, if_true, if_false, ex_seq, ex_block, reduceCtorEq, ↓reduceIte])
                    | (refine tr_ret ?_; try simp only [ex_seq_ret, ex_block_ret]))
                refine tr_cond rfl (fun ht => ?_) (fun hf => ?_)
                · cases ht
                · repeat (first
                      | refine tr_seq_k fun _ _ => ?_
                      | (refine tr_region ?_; simp only [go_sem, List.getElem?_toArray, str_beq, reduceCtorEq, Nat.reduceEqDiff, Nat.reduceLT, Nat.reduceLeDiff, Nat.reduceAdd, Nat.reduceMul, Nat.reduceSub, Nat.reduceBEq, ↓reduceIte, bne_self_eq_false, Bool.and_false, Bool.false_and, Bool.true_or, Bool.false_or, hb, p1, hv, hv2, nd])
                      | refine k_of (by assumption) ?_
                      | refine tr_block ?_
                      | refine tr_scope ?_
                      | (refine tr_skip ?_; try simp only [ex_seq, ex_block])
                      | (refine tr_label ?_; try simp only [ex_seq, ex_block])
                      | (refine tr_exit ?_; try simp only [ex_seq_exit, ex_block_exit, Nat.reduceEqDiff, if_true, if_false, ex_seq, ex_block, reduceCtorEq, ↓reduceIte])
                      | (refine tr_ret ?_; try simp only [ex_seq_ret, ex_block_ret]))
                  refine tr_cond rfl (fun ht => ?_) (fun hf => ?_)
                  · repeat (first
                        | refine tr_seq_k fun _ _ => ?_
                        | (refine tr_region ?_; simp only [go_sem, List.getElem?_toArray, str_beq, reduceCtorEq, Nat.reduceEqDiff, Nat.reduceLT, Nat.reduceLeDiff, Nat.reduceAdd, Nat.reduceMul, Nat.reduceSub, Nat.reduceBEq, ↓reduceIte, bne_self_eq_false, Bool.and_false, Bool.false_and, Bool.true_or, Bool.false_or])
                        | refine k_of (by assumption) ?_
                        | refine tr_block ?_
                        | refine tr_scope ?_
                        | (refine tr_skip ?_; try simp only [ex_seq, ex_block])
                        | (refine tr_label ?_; try simp only [ex_seq, ex_block])
                        | (refine tr_exit ?_; try simp only [ex_seq_exit, ex_block_exit, Nat.reduceEqDiff, if_true, if_false, ex_seq, ex_block, reduceCtorEq, ↓reduceIte])
                        | (refine tr_ret ?_; try simp only [ex_seq_ret, ex_block_ret]))
                    refine tr_sub (fr' := [(0, .ptr b 0), (1, sA s), (6, iA E.length)]) ⟨rfl, rfl, rfl, trivial⟩ ?_
                    refine tr_drawX (id := 13) follows otApp (by kernel_rfl) [(0, .ptr b 0), (1, sA s), (6, iA E.length)] (setB (setB m2 b ⟨false, [.lsl h1' 0 (E.length + 1) 1, c2]⟩) b ⟨false, [.lsl h1' 0 (E.length + 1) 1, .lsl h2' 0 (E.length + 1) 1]⟩) ?_ ?_
                    · unfold otApp
                      simp only [go_sem, List.getElem?_toArray, str_beq, reduceCtorEq, Nat.reduceEqDiff, Nat.reduceLT, Nat.reduceLeDiff, Nat.reduceAdd, Nat.reduceMul, Nat.reduceSub, Nat.reduceBEq, ↓reduceIte, bne_self_eq_false, Bool.and_false, Bool.false_and, Bool.true_or, Bool.false_or, hb, p1, p2, ha1', ha2', hbA, hbB, setB_eq, gX]
                    · repeat (first
                          | refine tr_seq_k fun _ _ => ?_
                          | (refine tr_region ?_; simp only [go_sem, List.getElem?_toArray, str_beq, reduceCtorEq, Nat.reduceEqDiff, Nat.reduceLT, Nat.reduceLeDiff, Nat.reduceAdd, Nat.reduceMul, Nat.reduceSub, Nat.reduceBEq, ↓reduceIte, bne_self_eq_false, Bool.and_false, Bool.false_and, Bool.true_or, Bool.false_or])
                          | refine k_of (by assumption) ?_
                          | refine tr_block ?_
                          | refine tr_scope ?_
                          | (refine tr_skip ?_; try simp only [ex_seq, ex_block])
                          | (refine tr_label ?_; try simp only [ex_seq, ex_block])
                          | (refine tr_exit ?_; try simp only [ex_seq_exit, ex_block_exit, Nat.reduceEqDiff, if_true, if_false, ex_seq, ex_block, reduceCtorEq, ↓reduceIte])
                          | (refine tr_ret ?_; try simp only [ex_seq_ret, ex_block_ret]))
                      refine tr_sub (fr' := [(0, .ptr b 0), (1, sA s), (6, iA E.length)]) ⟨rfl, rfl, rfl, trivial⟩ ?_
                      refine tr_drawX (id := 14) follows otSet (by kernel_rfl) [(0, .ptr b 0), (1, sA s), (6, iA E.length)] (setB (setB (setB (setB m2 b ⟨false, [.lsl h1' 0 (E.length + 1) 1, c2]⟩) b ⟨false, [.lsl h1' 0 (E.length + 1) 1, .lsl h2' 0 (E.length + 1) 1]⟩) h1' ⟨false, blC stC (txE E ++ [s])⟩) h2' ⟨false, blC inC (usE E ++ [1])⟩) ?_ ?_
                      · unfold otSet
                        simp only [go_sem, List.getElem?_toArray, str_beq, reduceCtorEq, Nat.reduceEqDiff, Nat.reduceLT, Nat.reduceLeDiff, Nat.reduceAdd, Nat.reduceMul, Nat.reduceSub, Nat.reduceBEq, ↓reduceIte, bne_self_eq_false, Bool.and_false, Bool.false_and, Bool.true_or, Bool.false_or, gXX, gX1, gX2, gX2', gXb', i1, i2, f1, f2, e1, e2, setB_eq]
                      · repeat (first
                            | refine tr_seq_k fun _ _ => ?_
                            | (refine tr_region ?_; simp only [go_sem, List.getElem?_toArray, str_beq, reduceCtorEq, Nat.reduceEqDiff, Nat.reduceLT, Nat.reduceLeDiff, Nat.reduceAdd, Nat.reduceMul, Nat.reduceSub, Nat.reduceBEq, ↓reduceIte, bne_self_eq_false, Bool.and_false, Bool.false_and, Bool.true_or, Bool.false_or])
                            | refine k_of (by assumption) ?_
                            | refine tr_block ?_
                            | refine tr_scope ?_
                            | (refine tr_skip ?_; try simp only [ex_seq, ex_block])
                            | (refine tr_label ?_; try simp only [ex_seq, ex_block])
                            | (refine tr_exit ?_; try simp only [ex_seq_exit, ex_block_exit, Nat.reduceEqDiff, if_true, if_false, ex_seq, ex_block, reduceCtorEq, ↓reduceIte])
                            | (refine tr_ret ?_; try simp only [ex_seq_ret, ex_block_ret]))
                        refine (hQ _ _ [iA (E.length : Nat), iA 0] ?_ rfl rfl).2 <;> simp only [go_sem, List.getElem?_toArray, str_beq, reduceCtorEq, Nat.reduceEqDiff, Nat.reduceLT, Nat.reduceLeDiff, Nat.reduceAdd, Nat.reduceMul, Nat.reduceSub, Nat.reduceBEq, ↓reduceIte, bne_self_eq_false, Bool.and_false, Bool.false_and, Bool.true_or, Bool.false_or, Try.f20]
                  · cases hf
              · repeat (first
                    | refine tr_seq_k fun _ _ => ?_
                    | (refine tr_region ?_; simp only [go_sem, List.getElem?_toArray, str_beq, reduceCtorEq, Nat.reduceEqDiff, Nat.reduceLT, Nat.reduceLeDiff, Nat.reduceAdd, Nat.reduceMul, Nat.reduceSub, Nat.reduceBEq, ↓reduceIte, bne_self_eq_false, Bool.and_false, Bool.false_and, Bool.true_or, Bool.false_or, hb, d1, p1, hv, hv2])
                    | refine k_of (by assumption) ?_
                    | refine tr_block ?_
                    | refine tr_scope ?_
                    | (refine tr_skip ?_; try simp only [ex_seq, ex_block])
                    | (refine tr_label ?_; try simp only [ex_seq, ex_block])
                    | (refine tr_exit ?_; try simp only [ex_seq_exit, ex_block_exit, Nat.reduceEqDiff, if_true, if_false, ex_seq, ex_block, reduceCtorEq, ↓reduceIte])
                    | (refine tr_ret ?_; try simp only [ex_seq_ret, ex_block_ret]))
                refine tr_cond rfl (fun ht => ?_) (fun hf => ?_)
                · cases ht
                · repeat (first
                      | refine tr_seq_k fun _ _ => ?_
                      | (refine tr_region ?_; simp only [go_sem, List.getElem?_toArray, str_beq, reduceCtorEq, Nat.reduceEqDiff, Nat.reduceLT, Nat.reduceLeDiff, Nat.reduceAdd, Nat.reduceMul, Nat.reduceSub, Nat.reduceBEq, ↓reduceIte, bne_self_eq_false, Bool.and_false, Bool.false_and, Bool.true_or, Bool.false_or, hb, p1, hv, hv2, nd])
                      | refine k_of (by assumption) ?_
                      | refine tr_block ?_
                      | refine tr_scope ?_
                      | (refine tr_skip ?_; try simp only [ex_seq, ex_block])
                      | (refine tr_label ?_; try simp only [ex_seq, ex_block])
                      | (refine tr_exit ?_; try simp only [ex_seq_exit, ex_block_exit, Nat.reduceEqDiff, if_true, if_false, ex_seq, ex_block, reduceCtorEq, ↓reduceIte])
                      | (refine tr_ret ?_; try simp only [ex_seq_ret, ex_block_ret]))
                  refine tr_cond rfl (fun ht => ?_) (fun hf => ?_)
                  · repeat (first
                        | refine tr_seq_k fun _ _ => ?_
                        | (refine tr_region ?_; simp only [go_sem, List.getElem?_toArray, str_beq, reduceCtorEq, Nat.reduceEqDiff, Nat.reduceLT, Nat.reduceLeDiff, Nat.reduceAdd, Nat.reduceMul, Nat.reduceSub, Nat.reduceBEq, ↓reduceIte, bne_self_eq_false, Bool.and_false, Bool.false_and, Bool.true_or, Bool.false_or])
                        | refine k_of (by assumption) ?_
                        | refine tr_block ?_
                        | refine tr_scope ?_
                        | (refine tr_skip ?_; try simp only [ex_seq, ex_block])
                        | (refine tr_label ?_; try simp only [ex_seq, ex_block])
                        | (refine tr_exit ?_; try simp only [ex_seq_exit, ex_block_exit, Nat.reduceEqDiff, if_true, if_false, ex_seq, ex_block, reduceCtorEq, ↓reduceIte])
                        | (refine tr_ret ?_; try simp only [ex_seq_ret, ex_block_ret]))
                    refine tr_sub (fr' := [(0, .ptr b 0), (1, sA s), (6, iA E.length)]) ⟨rfl, rfl, rfl, trivial⟩ ?_
                    refine tr_drawX (id := 13) follows otApp (by kernel_rfl) [(0, .ptr b 0), (1, sA s), (6, iA E.length)] (setB (setB m2 b ⟨false, [.lsl h1' 0 (E.length + 1) 1, c2]⟩) b ⟨false, [.lsl h1' 0 (E.length + 1) 1, .lsl h2' 0 (E.length + 1) 1]⟩) ?_ ?_
                    · unfold otApp
                      simp only [go_sem, List.getElem?_toArray, str_beq, reduceCtorEq, Nat.reduceEqDiff, Nat.reduceLT, Nat.reduceLeDiff, Nat.reduceAdd, Nat.reduceMul, Nat.reduceSub, Nat.reduceBEq, ↓reduceIte, bne_self_eq_false, Bool.and_false, Bool.false_and, Bool.true_or, Bool.false_or, hb, p1, p2, ha1', ha2', hbA, hbB, setB_eq, gX]
                    · repeat (first
                          | refine tr_seq_k fun _ _ => ?_
                          | (refine tr_region ?_; simp only [go_sem, List.getElem?_toArray, str_beq, reduceCtorEq, Nat.reduceEqDiff, Nat.reduceLT, Nat.reduceLeDiff, Nat.reduceAdd, Nat.reduceMul, Nat.reduceSub, Nat.reduceBEq, ↓reduceIte, bne_self_eq_false, Bool.and_false, Bool.false_and, Bool.true_or, Bool.false_or])
                          | refine k_of (by assumption) ?_
                          | refine tr_block ?_
                          | refine tr_scope ?_
                          | (refine tr_skip ?_; try simp only [ex_seq, ex_block])
                          | (refine tr_label ?_; try simp only [ex_seq, ex_block])
                          | (refine tr_exit ?_; try simp only [ex_seq_exit, ex_block_exit, Nat.reduceEqDiff, if_true, if_false, ex_seq, ex_block, reduceCtorEq, ↓reduceIte])
                          | (refine tr_ret ?_; try simp only [ex_seq_ret, ex_block_ret]))
                      refine tr_sub (fr' := [(0, .ptr b 0), (1, sA s), (6, iA E.length)]) ⟨rfl, rfl, rfl, trivial⟩ ?_
                      refine tr_drawX (id := 14) follows otSet (by kernel_rfl) [(0, .ptr b 0), (1, sA s), (6, iA E.length)] (setB (setB (setB (setB m2 b ⟨false, [.lsl h1' 0 (E.length + 1) 1, c2]⟩) b ⟨false, [.lsl h1' 0 (E.length + 1) 1, .lsl h2' 0 (E.length + 1) 1]⟩) h1' ⟨false, blC stC (txE E ++ [s])⟩) h2' ⟨false, blC inC (usE E ++ [1])⟩) ?_ ?_
                      · unfold otSet
                        simp only [go_sem, List.getElem?_toArray, str_beq, reduceCtorEq, Nat.reduceEqDiff, Nat.reduceLT, Nat.reduceLeDiff, Nat.reduceAdd, Nat.reduceMul, Nat.reduceSub, Nat.reduceBEq, ↓reduceIte, bne_self_eq_false, Bool.and_false, Bool.false_and, Bool.true_or, Bool.false_or, gXX, gX1, gX2, gX2', gXb', i1, i2, f1, f2, e1, e2, setB_eq]
                      · repeat (first
                            | refine tr_seq_k fun _ _ => ?_
                            | (refine tr_region ?_; simp only [go_sem, List.getElem?_toArray, str_beq, reduceCtorEq, Nat.reduceEqDiff, Nat.reduceLT, Nat.reduceLeDiff, Nat.reduceAdd, Nat.reduceMul, Nat.reduceSub, Nat.reduceBEq, ↓reduceIte, bne_self_eq_false, Bool.and_false, Bool.false_and, Bool.true_or, Bool.false_or])
                            | refine k_of (by assumption) ?_
                            | refine tr_block ?_
                            | refine tr_scope ?_
                            | (refine tr_skip ?_; try simp only [ex_seq, ex_block])
                            | (refine tr_label ?_; try simp only [ex_seq, ex_block])
                            | (refine tr_exit ?_; try simp only [ex_seq_exit, ex_block_exit, Nat.reduceEqDiff, if_true, if_false, ex_seq, ex_block, reduceCtorEq, ↓reduceIte])
                            | (refine tr_ret ?_; try simp only [ex_seq_ret, ex_block_ret]))
                        refine (hQ _ _ [iA (E.length : Nat), iA 0] ?_ rfl rfl).2 <;> simp only [go_sem, List.getElem?_toArray, str_beq, reduceCtorEq, Nat.reduceEqDiff, Nat.reduceLT, Nat.reduceLeDiff, Nat.reduceAdd, Nat.reduceMul, Nat.reduceSub, Nat.reduceBEq, ↓reduceIte, bne_self_eq_false, Bool.and_false, Bool.false_and, Bool.true_or, Bool.false_or, Try.f20]
                  · cases hf
    · refine ⟨.lsl h1' 0 (E.length + 1) 1, .lsl h2' 0 (E.length + 1) 1, [h1'], [h2'], ?_, ?_, ?_, rfl, ?_⟩
      · rw [setB_ne hne2, setB_ne hne1]; exact gXX _ _
      · refine Or.inr ⟨h1', txE (E ++ [(s, 1)]), by simp [txE], rfl, ?_, (List.take_of_length_le (Nat.le_refl _)).symm⟩
        rw [setB_ne (Ne.symm hne12), show txE (E ++ [(s, 1)]) = txE E ++ [s] by simp [txE]]
        exact setB_self (by simp only [setB_len]; exact hl1') _
      · refine Or.inr ⟨h2', usE (E ++ [(s, 1)]), by simp [usE], rfl, ?_, (List.take_of_length_le (Nat.le_refl _)).symm⟩
        rw [show usE (E ++ [(s, 1)]) = usE E ++ [1] by simp [usE]]
        exact setB_self (by simp only [setB_len]; exact hl2') _
      · simp only [List.cons_append, List.nil_append, List.nodup_cons, List.mem_cons, List.not_mem_nil, or_false, not_or, not_false_eq_true, List.nodup_nil, and_true]
        exact ⟨⟨Ne.symm hne1, Ne.symm hne2⟩, hne12⟩
  · rw [if_neg hc]
    have hnlt : n < E.length := by omega
    obtain ⟨h', L', rfl, rfl, hL', hEL', hkL', hg'⟩ := row_getG hT (k := n) (by rw [txE_len]; exact hnlt)
    obtain ⟨h, L, rfl, rfl, hL, hEL, hkL, hg⟩ := row_getG hR (k := n) (by rw [usE_len]; exact hnlt)
    have hhl := (List.getElem?_eq_some_iff.1 hL).1
    have hhl' := (List.getElem?_eq_some_iff.1 hL').1
    have hhb : h ≠ b := fun e => hd.2.1 (by simp [e])
    have hhb' : h' ≠ b := fun e => hd.1 (by simp [e])
    have hhh : h' ≠ h := fun e => hd.2.2 h' (by simp) (by simp [e])
    have k2 : Kp m (setB (setB m h' ⟨false, blC stC (L'.set n s)⟩) h ⟨false, blC inC (L.set n 1)⟩) (b :: ([h'] ++ [h])) (b :: ([h'] ++ [h])) := ((Kp.refl hW _).put (i := h') (by simp) lows_blC).put (i := h) (by simp) lows_blC
    refine ⟨_, _, ?_, ?_, k2⟩
    · refine givesW_of' Try.func20 rfl (by kernel_rfl) Try.ntmps20 rfl rfl fun Q hQ => ?_
      repeat (first
          | refine tr_seq_k fun _ _ => ?_
          | (refine tr_region ?_; simp only [go_sem, List.getElem?_toArray, str_beq, reduceCtorEq, Nat.reduceEqDiff, Nat.reduceLT, Nat.reduceLeDiff, Nat.reduceAdd, Nat.reduceMul, Nat.reduceSub, Nat.reduceBEq, ↓reduceIte, bne_self_eq_false, Bool.and_false, Bool.false_and, Bool.true_or, Bool.false_or, h1, h2])
          | refine k_of (by assumption) ?_
          | refine tr_block ?_
          | refine tr_scope ?_
          | (refine tr_skip ?_; try simp only [ex_seq, ex_block])
          | (refine tr_label ?_; try simp only [ex_seq, ex_block])
          | (refine tr_exit ?_; try simp only [ex_seq_exit, ex_block_exit, Nat.reduceEqDiff, if_true, if_false, ex_seq, ex_block, reduceCtorEq, ↓reduceIte])
          | (refine tr_ret ?_; try simp only [ex_seq_ret, ex_block_ret]))
      refine tr_cond rfl (fun ht => ?_) (fun hf => ?_)
      · cases ht
      · repeat (first
            | refine tr_seq_k fun _ _ => ?_
            | (refine tr_region ?_; simp only [go_sem, List.getElem?_toArray, str_beq, reduceCtorEq, Nat.reduceEqDiff, Nat.reduceLT, Nat.reduceLeDiff, Nat.reduceAdd, Nat.reduceMul, Nat.reduceSub, Nat.reduceBEq, ↓reduceIte, bne_self_eq_false, Bool.and_false, Bool.false_and, Bool.true_or, Bool.false_or])
            | (refine call_givesW (cf) ?_; (try dsimp only); (try simp only [go_sem, List.getElem?_toArray, str_beq, reduceCtorEq, Nat.reduceEqDiff, Nat.reduceLT, Nat.reduceLeDiff, Nat.reduceAdd, Nat.reduceMul, Nat.reduceSub, Nat.reduceBEq, ↓reduceIte, bne_self_eq_false, Bool.and_false, Bool.false_and, Bool.true_or, Bool.false_or]))
            | refine k_of (by assumption) ?_
            | refine tr_block ?_
            | refine tr_scope ?_
            | (refine tr_skip ?_; try simp only [ex_seq, ex_block])
            | (refine tr_label ?_; try simp only [ex_seq, ex_block])
            | (refine tr_exit ?_; try simp only [ex_seq_exit, ex_block_exit, Nat.reduceEqDiff, if_true, if_false, ex_seq, ex_block, reduceCtorEq, ↓reduceIte])
            | (refine tr_ret ?_; try simp only [ex_seq_ret, ex_block_ret]))
        refine tr_cond rfl (fun ht => ?_) (fun hf => ?_)
        · cases ht
        · repeat (first
              | refine tr_seq_k fun _ _ => ?_
              | (refine tr_region ?_; simp only [go_sem, List.getElem?_toArray, str_beq, reduceCtorEq, Nat.reduceEqDiff, Nat.reduceLT, Nat.reduceLeDiff, Nat.reduceAdd, Nat.reduceMul, Nat.reduceSub, Nat.reduceBEq, ↓reduceIte, bne_self_eq_false, Bool.and_false, Bool.false_and, Bool.true_or, Bool.false_or, h3])
              | (refine call_givesW (cl) ?_; (try dsimp only); (try simp only [go_sem, List.getElem?_toArray, str_beq, reduceCtorEq, Nat.reduceEqDiff, Nat.reduceLT, Nat.reduceLeDiff, Nat.reduceAdd, Nat.reduceMul, Nat.reduceSub, Nat.reduceBEq, ↓reduceIte, bne_self_eq_false, Bool.and_false, Bool.false_and, Bool.true_or, Bool.false_or, h3]))
              | refine k_of (by assumption) ?_
              | refine tr_block ?_
              | refine tr_scope ?_
              | (refine tr_skip ?_; try simp only [ex_seq, ex_block])
              | (refine tr_label ?_; try simp only [ex_seq, ex_block])
              | (refine tr_exit ?_; try simp only [ex_seq_exit, ex_block_exit, Nat.reduceEqDiff, if_true, if_false, ex_seq, ex_block, reduceCtorEq, ↓reduceIte])
              | (refine tr_ret ?_; try simp only [ex_seq_ret, ex_block_ret]))
          refine tr_cond rfl (fun ht => ?_) (fun hf => ?_)
          · cases ht
          · repeat (first
                | refine tr_seq_k fun _ _ => ?_
                | (refine tr_region ?_; simp only [go_sem, List.getElem?_toArray, str_beq, reduceCtorEq, Nat.reduceEqDiff, Nat.reduceLT, Nat.reduceLeDiff, Nat.reduceAdd, Nat.reduceMul, Nat.reduceSub, Nat.reduceBEq, ↓reduceIte, bne_self_eq_false, Bool.and_false, Bool.false_and, Bool.true_or, Bool.false_or])
                | refine k_of (by assumption) ?_
                | refine tr_block ?_
                | refine tr_scope ?_
                | (refine tr_skip ?_; try simp only [ex_seq, ex_block])
                | (refine tr_label ?_; try simp only [ex_seq, ex_block])
                | (refine tr_exit ?_; try simp only [ex_seq_exit, ex_block_exit, Nat.reduceEqDiff, if_true, if_false, ex_seq, ex_block, reduceCtorEq, ↓reduceIte])
                | (refine tr_ret ?_; try simp only [ex_seq_ret, ex_block_ret]))
            refine tr_loop_k (σ := Nat) (fun k => [(0, .ptr b 0), (1, sA s), (6, iA k)]) (fun _ => m) (fun k => k ≤ n ∧ ∀ j (hj : j < k) (hE : j < E.length), (E[j]).1 ≠ emp) (fun k => E.length - k) 0 ⟨Nat.zero_le _, fun j hj => absurd hj (Nat.not_lt_zero _)⟩ ⟨rfl, rfl, rfl, trivial⟩ rfl ?_
            rintro k ⟨hk, hI⟩ K hK
            have hkl : k < E.length := by omega
            have hkT : k < (txE E).length := by rw [txE_len]; exact hkl
            have d1 : decide ((k : Int) < (((txE E).length : Nat) : Int)) = true := decide_eq_true (by omega)
            have i1 := st_idx (b := h') (n := (txE E).length) (i := k) hkT
            have hlL : (txE E).length ≤ L'.length := by
              have := congrArg List.length hEL'
              rw [List.length_take] at this
              omega
            have g1 := st_get (L := L') (i := k) (by omega)
            have hge : (E[k]).1 = L'[k] := by rw [← take_get hEL' hkT (by omega), txE_get]
            have ws := wrap_succ (show k ≤ 1000000000 by omega)
            cases d2 : decide (L'[k] = ⟨#[]⟩) with
            | true =>
              have d2' : (E[k]).1 = emp := by rw [hge]; exact of_decide_eq_true d2
              obtain rfl : k = n := by
                rw [← hn]
                exact (leastF_stop (by omega) hI (fun _ => d2')).symm
              repeat (first
                  | refine tr_seq_k fun _ _ => ?_
                  | (refine tr_region ?_; simp only [go_sem, List.getElem?_toArray, str_beq, reduceCtorEq, Nat.reduceEqDiff, Nat.reduceLT, Nat.reduceLeDiff, Nat.reduceAdd, Nat.reduceMul, Nat.reduceSub, Nat.reduceBEq, ↓reduceIte, bne_self_eq_false, Bool.and_false, Bool.false_and, Bool.true_or, Bool.false_or, hb, d1, hL', i1, g1, d2])
                  | refine k_of (by assumption) ?_
                  | refine tr_block ?_
                  | refine tr_scope ?_
                  | (refine tr_skip ?_; try simp only [ex_seq, ex_block])
                  | (refine tr_label ?_; try simp only [ex_seq, ex_block])
                  | (refine tr_exit ?_; try simp only [ex_seq_exit, ex_block_exit, Nat.reduceEqDiff, if_true, if_false, ex_seq, ex_block, reduceCtorEq, ↓reduceIte])
                  | (refine tr_ret ?_; try simp only [ex_seq_ret, ex_block_ret]))
              refine tr_cond rfl (fun ht => ?_) (fun hf => ?_)
              · cases ht
              · have nd : ((k : Int) == (((txE E).length : Nat) : Int)) = false := by
                  rw [beq_eq_false_iff_ne]
                  omega
                repeat (first
                    | refine tr_seq_k fun _ _ => ?_
                    | (refine tr_region ?_; simp only [go_sem, List.getElem?_toArray, str_beq, reduceCtorEq, Nat.reduceEqDiff, Nat.reduceLT, Nat.reduceLeDiff, Nat.reduceAdd, Nat.reduceMul, Nat.reduceSub, Nat.reduceBEq, ↓reduceIte, bne_self_eq_false, Bool.and_false, Bool.false_and, Bool.true_or, Bool.false_or, hb, hL', nd])
                    | refine k_of (by assumption) ?_
                    | refine tr_block ?_
                    | refine tr_scope ?_
                    | (refine tr_skip ?_; try simp only [ex_seq, ex_block])
                    | (refine tr_label ?_; try simp only [ex_seq, ex_block])
                    | (refine tr_exit ?_; try simp only [ex_seq_exit, ex_block_exit, Nat.reduceEqDiff, if_true, if_false, ex_seq, ex_block, reduceCtorEq, ↓reduceIte])
                    | (refine tr_ret ?_; try simp only [ex_seq_ret, ex_block_ret]))
                refine tr_cond rfl (fun ht => ?_) (fun hf => ?_)
                · cases ht
                · repeat (first
                      | refine tr_seq_k fun _ _ => ?_
                      | (refine tr_region ?_; simp only [go_sem, List.getElem?_toArray, str_beq, reduceCtorEq, Nat.reduceEqDiff, Nat.reduceLT, Nat.reduceLeDiff, Nat.reduceAdd, Nat.reduceMul, Nat.reduceSub, Nat.reduceBEq, ↓reduceIte, bne_self_eq_false, Bool.and_false, Bool.false_and, Bool.true_or, Bool.false_or])
                      | refine k_of (by assumption) ?_
                      | refine tr_block ?_
                      | refine tr_scope ?_
                      | (refine tr_skip ?_; try simp only [ex_seq, ex_block])
                      | (refine tr_label ?_; try simp only [ex_seq, ex_block])
                      | (refine tr_exit ?_; try simp only [ex_seq_exit, ex_block_exit, Nat.reduceEqDiff, if_true, if_false, ex_seq, ex_block, reduceCtorEq, ↓reduceIte])
                      | (refine tr_ret ?_; try simp only [ex_seq_ret, ex_block_ret]))
                  refine tr_drawX (id := 14) follows otSet (by kernel_rfl) [(0, .ptr b 0), (1, sA s), (6, iA k)] (setB (setB m h' ⟨false, blC stC (L'.set k s)⟩) h ⟨false, blC inC (L.set k 1)⟩) ?_ ?_
                  · have i2 := in_idx Try.underlying55 (b := h) (n := (usE E).length) (i := k) (by rw [usE_len]; exact hkl)
                    have f1 := st_fit hkL'
                    have f2 := in_fit hkL
                    have e1 := st_set hkL' s
                    have e2 := in_set hkL 1
                    have gb1 : ∀ x, (setB m h' x).hp[b]? = some ⟨false, [.lsl h' 0 (txE E).length 1, .lsl h 0 (usE E).length 1]⟩ := fun x => by rw [setB_ne hhb']; exact hb
                    have gh1 : ∀ x, (setB m h' x).hp[h]? = some ⟨false, blC inC L⟩ := fun x => by rw [setB_ne hhh]; exact hL
                    unfold otSet
                    simp only [go_sem, List.getElem?_toArray, str_beq, reduceCtorEq, Nat.reduceEqDiff, Nat.reduceLT, Nat.reduceLeDiff, Nat.reduceAdd, Nat.reduceMul, Nat.reduceSub, Nat.reduceBEq, ↓reduceIte, bne_self_eq_false, Bool.and_false, Bool.false_and, Bool.true_or, Bool.false_or, hb, hL', hL, i1, i2, f1, f2, e1, e2, setB_eq, gb1, gh1]
                  · repeat (first
                        | refine tr_seq_k fun _ _ => ?_
                        | (refine tr_region ?_; simp only [go_sem, List.getElem?_toArray, str_beq, reduceCtorEq, Nat.reduceEqDiff, Nat.reduceLT, Nat.reduceLeDiff, Nat.reduceAdd, Nat.reduceMul, Nat.reduceSub, Nat.reduceBEq, ↓reduceIte, bne_self_eq_false, Bool.and_false, Bool.false_and, Bool.true_or, Bool.false_or])
                        | refine k_of (by assumption) ?_
                        | refine tr_block ?_
                        | refine tr_scope ?_
                        | (refine tr_skip ?_; try simp only [ex_seq, ex_block])
                        | (refine tr_label ?_; try simp only [ex_seq, ex_block])
                        | (refine tr_exit ?_; try simp only [ex_seq_exit, ex_block_exit, Nat.reduceEqDiff, if_true, if_false, ex_seq, ex_block, reduceCtorEq, ↓reduceIte])
                        | (refine tr_ret ?_; try simp only [ex_seq_ret, ex_block_ret]))
                    refine (hQ _ _ [iA (k : Nat), iA 0] ?_ rfl rfl).2 <;> simp only [go_sem, List.getElem?_toArray, str_beq, reduceCtorEq, Nat.reduceEqDiff, Nat.reduceLT, Nat.reduceLeDiff, Nat.reduceAdd, Nat.reduceMul, Nat.reduceSub, Nat.reduceBEq, ↓reduceIte, bne_self_eq_false, Bool.and_false, Bool.false_and, Bool.true_or, Bool.false_or, Try.f20]
            | false =>
              have d2' : (E[k]).1 ≠ emp := by rw [hge]; exact of_decide_eq_false d2
              have hkn : k ≠ n := fun e => by
                have := (leastF_lt (E := E) hn hnlt).1
                subst e
                exact d2' this
              repeat (first
                  | refine tr_seq_k fun _ _ => ?_
                  | (refine tr_region ?_; simp only [go_sem, List.getElem?_toArray, str_beq, reduceCtorEq, Nat.reduceEqDiff, Nat.reduceLT, Nat.reduceLeDiff, Nat.reduceAdd, Nat.reduceMul, Nat.reduceSub, Nat.reduceBEq, ↓reduceIte, bne_self_eq_false, Bool.and_false, Bool.false_and, Bool.true_or, Bool.false_or, hb, d1, hL', i1, g1, d2])
                  | refine k_of (by assumption) ?_
                  | refine tr_block ?_
                  | refine tr_scope ?_
                  | (refine tr_skip ?_; try simp only [ex_seq, ex_block])
                  | (refine tr_label ?_; try simp only [ex_seq, ex_block])
                  | (refine tr_exit ?_; try simp only [ex_seq_exit, ex_block_exit, Nat.reduceEqDiff, if_true, if_false, ex_seq, ex_block, reduceCtorEq, ↓reduceIte])
                  | (refine tr_ret ?_; try simp only [ex_seq_ret, ex_block_ret]))
              refine tr_cond rfl (fun ht => ?_) (fun hf => ?_)
              · repeat (first
                    | refine tr_seq_k fun _ _ => ?_
                    | (refine tr_region ?_; simp only [go_sem, List.getElem?_toArray, str_beq, reduceCtorEq, Nat.reduceEqDiff, Nat.reduceLT, Nat.reduceLeDiff, Nat.reduceAdd, Nat.reduceMul, Nat.reduceSub, Nat.reduceBEq, ↓reduceIte, bne_self_eq_false, Bool.and_false, Bool.false_and, Bool.true_or, Bool.false_or, ws])
                    | refine k_of (by assumption) ?_
                    | refine tr_block ?_
                    | refine tr_scope ?_
                    | (refine tr_skip ?_; try simp only [ex_seq, ex_block])
                    | (refine tr_label ?_; try simp only [ex_seq, ex_block])
                    | (refine tr_exit ?_; try simp only [ex_seq_exit, ex_block_exit, Nat.reduceEqDiff, if_true, if_false, ex_seq, ex_block, reduceCtorEq, ↓reduceIte])
                    | (refine tr_ret ?_; try simp only [ex_seq_ret, ex_block_ret]))
                exact hK (k + 1) _ _ ⟨by omega, fun j hj hE => by
                  rcases Nat.lt_succ_iff_lt_or_eq.1 hj with h | rfl
                  · exact hI j h hE
                  · exact d2'⟩ ⟨⟨rfl, rfl, rfl, trivial⟩, Keep.refl _, by simp only [lowF, low, Bool.and_true, Bool.true_and, Nat.blt_eq]; exact hlt, hW, Nat.le_refl _, Nat.le_refl _⟩ (by omega)
              · cases hf
    · refine ⟨.lsl h' 0 (txE E).length 1, .lsl h 0 (usE E).length 1, [h'], [h], ?_, ?_, ?_, rfl, hnd⟩
      · rw [setB_ne hhb, setB_ne hhb']; exact hb
      · rw [txE_set]
        refine Or.inr ⟨h', _, by rw [List.length_set], rfl, ?_, take_set hEL' (by rw [txE_len]; exact hnlt) _⟩
        rw [setB_ne (Ne.symm hhh)]
        exact setB_self hhl' _
      · rw [usE_set]
        exact Or.inr ⟨h, L.set n 1, by rw [List.length_set], rfl, setB_self (by rw [setB_len]; exact hhl) _, take_set hEL (by rw [usE_len]; exact hnlt) _⟩
end Go.Proofs.Ytlhlcfijpdknfaa

/-
  Chapter 2: the document's Each; lists of entries compared; Take of the document, in all; light.
-/
set_option linter.unusedSimpArgs false
set_option linter.unusedVariables false
namespace Go.Proofs.Ytlhlcfijpdknfaa
open Go.Vs Go.Vs.Ab Go.Vs.Hp Go.Vs.Tb
set_option maxRecDepth 100000
set_option maxHeartbeats 4000000

/-- What was collected, its room forgotten. -/
theorem shutCol {P : Program} {F : FuncId} {args : List AV} {m : Mm} {T : Type} {enc : T → List CV} {e : TypeId} {size : Nat} {l : List T} (h : GivesW P F args m (colA enc m.hw.length l) ⟨m.hp, m.hw ++ colH e size l⟩) : GivesW P F args m (slR enc l.isEmpty l) m := by
  refine ⟨h.1, fun X W0 w vs M hr => (h.2 X W0 w vs M hr).mono ?_⟩
  rintro e w' ⟨v, X', rfl, hle, hv, M'⟩
  refine ⟨v, X'.cut m.hp.length m.hw.length, rfl, RelOk.cut (R := fle) hle (fun k β hk => M.ldom k β hk) (fun k T hk => M.odom k T hk), ?_, M'.cut ⟨⟨[], by simp⟩, ⟨_, rfl⟩⟩ M.lowB⟩
  cases l with
  | nil => exact Rep.cut (c := .c (.sl true 0 [])) hv rfl
  | cons x l => exact Rep.cut (c := .c (.sl false (l.length + 1) ((x :: l).flatMap enc))) (.c hv.ro) rfl

theorem exL_app (E : List Ent) (e : Ent) : exL (E ++ [e]) = exL E ++ if liveB e then [(E.length, e.1)] else [] := by
  unfold exL
  rw [lives_append, List.map_append]
  congr 1
  · refine List.map_congr_left fun i hi => ?_
    obtain ⟨e', he, _⟩ := mem_lives.1 hi
    have hi := (List.getElem?_eq_some_iff.1 he).1
    rw [List.getD_eq_getElem?_getD, List.getD_eq_getElem?_getD, List.getElem?_append_left hi]
  · cases liveB e <;> simp [List.getD_eq_getElem?_getD]
theorem exL_take {E : List Ent} {k : Nat} (hk : k < E.length) : exL (E.take (k + 1)) = exL (E.take k) ++ if liveB E[k] then [(k, (E[k]).1)] else [] := by
  rw [← List.take_append_getElem hk, exL_app, List.length_take, Nat.min_eq_left (by omega)]
theorem exL_le (E : List Ent) : (exL E).length ≤ E.length := by
  rw [exL_len]
  unfold lives
  exact Nat.le_trans (List.length_filter_le _ _) (by rw [List.length_range]; exact Nat.le_refl _)
theorem ex_hk (p : Nat × ByteArray) : (exC p).length = 2 := rfl
theorem info_ent : info3 Try.prog 52 = some (2, 24) := by kernel_rfl
theorem build1X (x : Int) (s : ByteArray) : aBuildSlice Try.prog 47 1 [(0, .agg [.v (.int .i64 x), .v (.string s)])] = some [.v (.int .i64 x), .v (.string s)] := build1 Try.underlying47 sz52 ze52 (by decide) (by decide) (by decide) rfl rfl
attribute [go_sem] build1X
theorem low_colK {T : Type} (enc : T → List CV) (e : TypeId) (size : Nat) (l : List T) (hw : List Hw) (i : Nat) : low i (hw ++ colH e size l).length (colA enc hw.length l) = true := by
  cases l with
  | nil => rfl
  | cons x l => simp only [colA, colH, low, List.length_append, List.length_singleton, Nat.blt_eq]; omega

theorem each_gives {m : Mm} {b : Nat} {E : List Ent} {S : List Nat} (h : RefM m b E S) (hW : Wf m) (hM : E.length ≤ 1000) : GivesW Try.prog 28 [.ptr b 0] m (slR exC (exL E).isEmpty (exL E)) m := by
  refine shutCol (e := 52) (size := 2) ?_
  have hlt := h.lt
  obtain ⟨c1, c2, s1, s2, hb, hT, hU, hS, hnd⟩ := h
  have p1 := hT.plain1
  have e0 : exL (E.take 0) = [] := rfl
  have lf : ∀ (k : Nat) (L : List (Nat × ByteArray)), lowF m.hp.length (m.hw ++ colH 52 2 L).length [(0, .ptr b 0), (3, colA exC m.hw.length L), (4, iA k)] = true := fun k L => by
    simp only [lowF, low_colK, low, Bool.and_true, Nat.blt_eq]
    exact hlt
  have lb : ∀ L : List (Nat × ByteArray), lowB m.hp.length (m.hw ++ colH 52 2 L).length m.hp = true := fun L => lowB_mono (Nat.le_refl _) (by rw [List.length_append]; omega) hW
  refine givesW_of' Try.func28 rfl (by kernel_rfl) Try.ntmps28 rfl rfl fun Q hQ => ?_
  repeat (first
      | refine tr_seq_k fun _ _ => ?_
      | (refine tr_region ?_; simp only [go_sem, List.getElem?_toArray, str_beq, reduceCtorEq, Nat.reduceEqDiff, Nat.reduceLT, Nat.reduceLeDiff, Nat.reduceAdd, Nat.reduceMul, Nat.reduceSub, Nat.reduceBEq, ↓reduceIte, bne_self_eq_false, Bool.and_false, Bool.false_and, Bool.true_or, Bool.false_or])
      | refine k_of (by assumption) ?_
      | refine tr_block ?_
      | refine tr_scope ?_
      | (refine tr_skip ?_; try simp only [ex_seq, ex_block])
      | (refine tr_label ?_; try simp only [ex_seq, ex_block])
      | (refine tr_exit ?_; try simp only [ex_seq_exit, ex_block_exit, Nat.reduceEqDiff, if_true, if_false, ex_seq, ex_block, reduceCtorEq, ↓reduceIte])
      | (refine tr_ret ?_; try simp only [ex_seq_ret, ex_block_ret]))
  refine tr_loop_k (σ := Nat) (fun k => [(0, .ptr b 0), (3, colA exC m.hw.length (exL (E.take k))), (4, iA k)]) (fun k => ⟨m.hp, m.hw ++ colH 52 2 (exL (E.take k))⟩) (fun k => k ≤ E.length) (fun k => E.length - k) 0 (Nat.zero_le _) ⟨rfl, rfl, rfl, trivial⟩ (by rw [e0]; simp [colH]) ?_
  rintro k hk K hK
  have hLl : (exL (E.take k)).length ≤ 1000 := Nat.le_trans (exL_le _) (by rw [List.length_take]; omega)
  have hBl : ∀ L : List (Nat × ByteArray), (m.hw ++ colH 52 2 (exL (E.take 0))).length ≤ (m.hw ++ colH 52 2 L).length := fun L => by
    rw [e0, List.length_append, List.length_append]
    exact Nat.add_le_add_left (Nat.zero_le _) _
  by_cases hkl : k < E.length
  · obtain ⟨h, L, rfl, _, hL, hEL, hkL, hg⟩ := row_getG hT (k := k) (by rw [txE_len]; exact hkl)
    have h1 : decide ((k : Int) < (((txE E).length : Nat) : Int)) = true := decide_eq_true (by rw [txE_len]; omega)
    have i1 := st_idx (b := h) (n := (txE E).length) (i := k) (by rw [txE_len]; exact hkl)
    have g1 := st_get hkL
    have ws := wrap_succ (show k ≤ 1000000000 by omega)
    have hge : (E[k]).1 = L[k] := by rw [hg, txE_get]
    have hlk := exL_take hkl
    generalize hO : exL (E.take k) = O at *
    have ap := fun ex => app_col (P := Try.prog) (t := 47) exC ex_hk Try.underlying47 info_ent (hp := m.hp) (hw := m.hw) (l := O) (x := (k, L[k])) (ex := ex) (by unfold maxLen; omega) (by omega)
    have ap : ∀ ex, aAppend Try.prog ⟨m.hp, m.hw ++ colH 52 2 O⟩ 47 (colA exC m.hw.length O) (.c (.sl ex 1 [.v (.int .i64 (k : Int)), .v (.string L[k])])) = some (colA exC m.hw.length (O ++ [(k, L[k])]), ⟨m.hp, m.hw ++ colH 52 2 (O ++ [(k, L[k])])⟩) := ap
    repeat (first
        | refine tr_seq_k fun _ _ => ?_
        | (refine tr_region ?_; simp only [go_sem, List.getElem?_toArray, str_beq, reduceCtorEq, Nat.reduceEqDiff, Nat.reduceLT, Nat.reduceLeDiff, Nat.reduceAdd, Nat.reduceMul, Nat.reduceSub, Nat.reduceBEq, ↓reduceIte, bne_self_eq_false, Bool.and_false, Bool.false_and, Bool.true_or, Bool.false_or, hb, h1])
        | refine k_of (by assumption) ?_
        | refine tr_block ?_
        | refine tr_scope ?_
        | (refine tr_skip ?_; try simp only [ex_seq, ex_block])
        | (refine tr_label ?_; try simp only [ex_seq, ex_block])
        | (refine tr_exit ?_; try simp only [ex_seq_exit, ex_block_exit, Nat.reduceEqDiff, if_true, if_false, ex_seq, ex_block, reduceCtorEq, ↓reduceIte])
        | (refine tr_ret ?_; try simp only [ex_seq_ret, ex_block_ret]))
    refine tr_cond rfl (fun ht => ?_) (fun hf => ?_)
    · cases h2 : decide (L[k] = ⟨#[]⟩) with
      | true =>
        have h2' : (E[k]).1 = emp := by rw [hge]; exact of_decide_eq_true h2
        rw [show liveB E[k] = false by simp [liveB, h2'], if_neg Bool.false_ne_true, List.append_nil] at hlk
        repeat (first
            | refine tr_seq_k fun _ _ => ?_
            | (refine tr_region ?_; simp only [go_sem, List.getElem?_toArray, str_beq, reduceCtorEq, Nat.reduceEqDiff, Nat.reduceLT, Nat.reduceLeDiff, Nat.reduceAdd, Nat.reduceMul, Nat.reduceSub, Nat.reduceBEq, ↓reduceIte, bne_self_eq_false, Bool.and_false, Bool.false_and, Bool.true_or, Bool.false_or, hb, h1, hL, i1, g1, h2])
            | refine k_of (by assumption) ?_
            | refine tr_block ?_
            | refine tr_scope ?_
            | (refine tr_skip ?_; try simp only [ex_seq, ex_block])
            | (refine tr_label ?_; try simp only [ex_seq, ex_block])
            | (refine tr_exit ?_; try simp only [ex_seq_exit, ex_block_exit, Nat.reduceEqDiff, if_true, if_false, ex_seq, ex_block, reduceCtorEq, ↓reduceIte])
            | (refine tr_ret ?_; try simp only [ex_seq_ret, ex_block_ret]))
        refine tr_cond rfl (fun ht => ?_) (fun hf => ?_)
        · cases ht
        · repeat (first
              | refine tr_seq_k fun _ _ => ?_
              | (refine tr_region ?_; simp only [go_sem, List.getElem?_toArray, str_beq, reduceCtorEq, Nat.reduceEqDiff, Nat.reduceLT, Nat.reduceLeDiff, Nat.reduceAdd, Nat.reduceMul, Nat.reduceSub, Nat.reduceBEq, ↓reduceIte, bne_self_eq_false, Bool.and_false, Bool.false_and, Bool.true_or, Bool.false_or, ws])
              | refine k_of (by assumption) ?_
              | refine tr_block ?_
              | refine tr_scope ?_
              | (refine tr_skip ?_; try simp only [ex_seq, ex_block])
              | (refine tr_label ?_; try simp only [ex_seq, ex_block])
              | (refine tr_exit ?_; try simp only [ex_seq_exit, ex_block_exit, Nat.reduceEqDiff, if_true, if_false, ex_seq, ex_block, reduceCtorEq, ↓reduceIte])
              | (refine tr_ret ?_; try simp only [ex_seq_ret, ex_block_ret]))
          exact hK (k + 1) _ _ hkl ⟨⟨rfl, by rw [hlk]; rfl, rfl, trivial⟩, by rw [hlk]; exact Keep.refl _, lf _ _, lb _, Nat.le_refl _, hBl _⟩ (by omega)
      | false =>
        have h2' : (E[k]).1 ≠ emp := by rw [hge]; exact of_decide_eq_false h2
        rw [show liveB E[k] = true by simp [liveB, h2'], if_pos rfl, hge] at hlk
        repeat (first
            | refine tr_seq_k fun _ _ => ?_
            | (refine tr_region ?_; simp only [go_sem, List.getElem?_toArray, str_beq, reduceCtorEq, Nat.reduceEqDiff, Nat.reduceLT, Nat.reduceLeDiff, Nat.reduceAdd, Nat.reduceMul, Nat.reduceSub, Nat.reduceBEq, ↓reduceIte, bne_self_eq_false, Bool.and_false, Bool.false_and, Bool.true_or, Bool.false_or, hb, h1, hL, i1, g1, h2])
            | refine k_of (by assumption) ?_
            | refine tr_block ?_
            | refine tr_scope ?_
            | (refine tr_skip ?_; try simp only [ex_seq, ex_block])
            | (refine tr_label ?_; try simp only [ex_seq, ex_block])
            | (refine tr_exit ?_; try simp only [ex_seq_exit, ex_block_exit, Nat.reduceEqDiff, if_true, if_false, ex_seq, ex_block, reduceCtorEq, ↓reduceIte])
            | (refine tr_ret ?_; try simp only [ex_seq_ret, ex_block_ret]))
        refine tr_cond rfl (fun ht => ?_) (fun hf => ?_)
        · repeat (first
              | refine tr_seq_k fun _ _ => ?_
              | (refine tr_region ?_; simp only [go_sem, List.getElem?_toArray, str_beq, reduceCtorEq, Nat.reduceEqDiff, Nat.reduceLT, Nat.reduceLeDiff, Nat.reduceAdd, Nat.reduceMul, Nat.reduceSub, Nat.reduceBEq, ↓reduceIte, bne_self_eq_false, Bool.and_false, Bool.false_and, Bool.true_or, Bool.false_or, hb, h1, hL, i1, g1, ap, ws])
              | refine k_of (by assumption) ?_
              | refine tr_block ?_
              | refine tr_scope ?_
              | (refine tr_skip ?_; try simp only [ex_seq, ex_block])
              | (refine tr_label ?_; try simp only [ex_seq, ex_block])
              | (refine tr_exit ?_; try simp only [ex_seq_exit, ex_block_exit, Nat.reduceEqDiff, if_true, if_false, ex_seq, ex_block, reduceCtorEq, ↓reduceIte])
              | (refine tr_ret ?_; try simp only [ex_seq_ret, ex_block_ret]))
          exact hK (k + 1) _ _ hkl ⟨⟨rfl, by rw [hlk]; rfl, rfl, trivial⟩, by rw [hlk]; exact Keep.refl _, lf _ _, lb _, Nat.le_refl _, hBl _⟩ (by omega)
        · cases hf
    · cases hf
  · have h1 : decide ((k : Int) < (((txE E).length : Nat) : Int)) = false := decide_eq_false (by rw [txE_len]; omega)
    have hr : exL (E.take k) = exL E := by rw [List.take_of_length_le (by omega)]
    rw [hr]
    rcases slV_row hT with ⟨cs, hv, hv2⟩ | ⟨b', hv, hv2⟩
    · repeat (first
          | refine tr_seq_k fun _ _ => ?_
          | (refine tr_region ?_; simp only [go_sem, List.getElem?_toArray, str_beq, reduceCtorEq, Nat.reduceEqDiff, Nat.reduceLT, Nat.reduceLeDiff, Nat.reduceAdd, Nat.reduceMul, Nat.reduceSub, Nat.reduceBEq, ↓reduceIte, bne_self_eq_false, Bool.and_false, Bool.false_and, Bool.true_or, Bool.false_or, hb, h1, p1, hv, hv2])
          | refine k_of (by assumption) ?_
          | refine tr_block ?_
          | refine tr_scope ?_
          | (refine tr_skip ?_; try simp only [ex_seq, ex_block])
          | (refine tr_label ?_; try simp only [ex_seq, ex_block])
          | (refine tr_exit ?_; try simp only [ex_seq_exit, ex_block_exit, Nat.reduceEqDiff, if_true, if_false, ex_seq, ex_block, reduceCtorEq, ↓reduceIte])
          | (refine tr_ret ?_; try simp only [ex_seq_ret, ex_block_ret]))
      refine tr_cond rfl (fun ht => ?_) (fun hf => ?_)
      · cases ht
      · repeat (first
            | refine tr_seq_k fun _ _ => ?_
            | (refine tr_region ?_; simp only [go_sem, List.getElem?_toArray, str_beq, reduceCtorEq, Nat.reduceEqDiff, Nat.reduceLT, Nat.reduceLeDiff, Nat.reduceAdd, Nat.reduceMul, Nat.reduceSub, Nat.reduceBEq, ↓reduceIte, bne_self_eq_false, Bool.and_false, Bool.false_and, Bool.true_or, Bool.false_or])
            | refine k_of (by assumption) ?_
            | refine tr_block ?_
            | refine tr_scope ?_
            | (refine tr_skip ?_; try simp only [ex_seq, ex_block])
            | (refine tr_label ?_; try simp only [ex_seq, ex_block])
            | (refine tr_exit ?_; try simp only [ex_seq_exit, ex_block_exit, Nat.reduceEqDiff, if_true, if_false, ex_seq, ex_block, reduceCtorEq, ↓reduceIte])
            | (refine tr_ret ?_; try simp only [ex_seq_ret, ex_block_ret]))
        refine (hQ _ _ [colA exC m.hw.length (exL E)] ?_ rfl rfl).2 <;> simp only [go_sem, List.getElem?_toArray, str_beq, reduceCtorEq, Nat.reduceEqDiff, Nat.reduceLT, Nat.reduceLeDiff, Nat.reduceAdd, Nat.reduceMul, Nat.reduceSub, Nat.reduceBEq, ↓reduceIte, bne_self_eq_false, Bool.and_false, Bool.false_and, Bool.true_or, Bool.false_or, Try.f28]
    · repeat (first
          | refine tr_seq_k fun _ _ => ?_
          | (refine tr_region ?_; simp only [go_sem, List.getElem?_toArray, str_beq, reduceCtorEq, Nat.reduceEqDiff, Nat.reduceLT, Nat.reduceLeDiff, Nat.reduceAdd, Nat.reduceMul, Nat.reduceSub, Nat.reduceBEq, ↓reduceIte, bne_self_eq_false, Bool.and_false, Bool.false_and, Bool.true_or, Bool.false_or, hb, h1, p1, hv, hv2])
          | refine k_of (by assumption) ?_
          | refine tr_block ?_
          | refine tr_scope ?_
          | (refine tr_skip ?_; try simp only [ex_seq, ex_block])
          | (refine tr_label ?_; try simp only [ex_seq, ex_block])
          | (refine tr_exit ?_; try simp only [ex_seq_exit, ex_block_exit, Nat.reduceEqDiff, if_true, if_false, ex_seq, ex_block, reduceCtorEq, ↓reduceIte])
          | (refine tr_ret ?_; try simp only [ex_seq_ret, ex_block_ret]))
      refine tr_cond rfl (fun ht => ?_) (fun hf => ?_)
      · cases ht
      · repeat (first
            | refine tr_seq_k fun _ _ => ?_
            | (refine tr_region ?_; simp only [go_sem, List.getElem?_toArray, str_beq, reduceCtorEq, Nat.reduceEqDiff, Nat.reduceLT, Nat.reduceLeDiff, Nat.reduceAdd, Nat.reduceMul, Nat.reduceSub, Nat.reduceBEq, ↓reduceIte, bne_self_eq_false, Bool.and_false, Bool.false_and, Bool.true_or, Bool.false_or])
            | refine k_of (by assumption) ?_
            | refine tr_block ?_
            | refine tr_scope ?_
            | (refine tr_skip ?_; try simp only [ex_seq, ex_block])
            | (refine tr_label ?_; try simp only [ex_seq, ex_block])
            | (refine tr_exit ?_; try simp only [ex_seq_exit, ex_block_exit, Nat.reduceEqDiff, if_true, if_false, ex_seq, ex_block, reduceCtorEq, ↓reduceIte])
            | (refine tr_ret ?_; try simp only [ex_seq_ret, ex_block_ret]))
        refine (hQ _ _ [colA exC m.hw.length (exL E)] ?_ rfl rfl).2 <;> simp only [go_sem, List.getElem?_toArray, str_beq, reduceCtorEq, Nat.reduceEqDiff, Nat.reduceLT, Nat.reduceLeDiff, Nat.reduceAdd, Nat.reduceMul, Nat.reduceSub, Nat.reduceBEq, ↓reduceIte, bne_self_eq_false, Bool.and_false, Bool.false_and, Bool.true_or, Bool.false_or, Try.f28]
end Go.Proofs.Ytlhlcfijpdknfaa

/-
  Chapter 2: lists of entries compared; the document's Take, in all; light.
-/
set_option linter.unusedSimpArgs false
set_option linter.unusedVariables false
namespace Go.Proofs.Ytlhlcfijpdknfaa
open Go.Vs Go.Vs.Ab Go.Vs.Hp Go.Vs.Tb
set_option maxRecDepth 100000
set_option maxHeartbeats 4000000

theorem rtake_tab {m : Mm} {b : Nat} {E : List Ent} {S : List Nat} (h : RefM m b E S) (hW : Wf m) (s : ByteArray) (hM : E.length ≤ 1000) (hU : ∀ e ∈ E, e.2 ≤ 100000) :
    ∃ m' S', GivesW Try.prog 20 [.ptr b 0, sA s] m (.tup [iA ((takeS E s).1.1 : Nat), iA (takeS E s).1.2]) m' ∧ RefM m' b (takeS E s).2 S' ∧ Kp m m' S S' := by
  unfold takeS
  by_cases hs : s.size < 1 ∨ 255 < s.size
  · rw [if_pos hs]
    exact ⟨m, S, rtake_bad h hs, h, Kp.refl hW S⟩
  · rw [if_neg hs]
    cases hf : findS E s with
    | some n =>
      obtain ⟨m', h1, h2, h3⟩ := rtake_found h hW hM hs hf hU
      exact ⟨m', S, h1, h2, h3⟩
    | none =>
      have hl : ¬ 65536 ≤ liveN E := by have := liveN_le E; omega
      simp only [if_neg hl]
      exact rtake_new h hW hM hs hf

theorem int_beq (a b : Int) : (a == b) = decide (a = b) := by
  rw [Bool.eq_iff_iff, beq_iff_eq, decide_eq_true_eq]
theorem int_bne (a b : Int) : (a != b) = !decide (a = b) := by
  unfold bne
  rw [int_beq]
attribute [go_sem] int_beq int_bne
theorem ba_beq (a b : ByteArray) : (a == b) = decide (a = b) := by
  have h : (a == b) = (a.data == b.data) := rfl
  rw [h, Bool.eq_iff_iff, beq_iff_eq, decide_eq_true_eq]
  exact ⟨fun h => by cases a; cases b; simp at h; simp [h], fun h => by rw [h]⟩
theorem pv_under {P : Program} {t : TypeId} {d : TypeDesc} (h : P.underlying t = some d) : pureVal P (underlying t) = some d := by
  simp only [underlying, program, pureVal, bind, Sem.bind, h, pure]
theorem pv_prog {P : Program} : pureVal P program = some P := rfl
theorem held_ex : Try.prog.stoodInHeld 52 = false := by kernel_rfl
theorem pv_isAgg {P : Program} {t : TypeId} {d : TypeDesc} (h : P.underlying t = some d) : pureVal P (isAgg t) = some (aggD d) := by
  unfold isAgg
  rw [pv_bind, pv_under h]
  cases d <;> rfl
theorem pv_part1 {P : Program} {t : TypeId} {d : TypeDesc} (h : P.underlying t = some d) (ha : aggD d = false) {cs : Array Value} {off : Nat} {v : Value} (hv : cs[off]? = some v) : pureVal P (part t cs off) = some v := by
  unfold part
  rw [pv_bind, pv_isAgg h, Option.bind_some, ha]
  simp only [Bool.false_eq_true, if_false, hv]
  rfl
theorem pv_eq_str {d : Nat} (a b : ByteArray) : pureVal Try.prog (Op.equalIn (d + 1) 9 (.string a) (.string b)) = some (decide (a = b)) := by
  unfold Op.equalIn
  rw [pv_bind, pv_under Try.underlying9]
  show some (a == b) = _
  rw [ba_beq]
theorem pv_eq_int {d : Nat} (a b : Int) : pureVal Try.prog (Op.equalIn (d + 1) 3 (.int .i64 a) (.int .i64 b)) = some (decide (a = b)) := by
  unfold Op.equalIn
  rw [pv_bind, pv_under Try.underlying3]
  show some (a == b) = _
  by_cases h : a = b
  · subst h; simp
  · simp [h]
theorem pv_if {α : Type} {P : Program} (c : Prop) [Decidable c] (x y : Sem α) : pureVal P (if c then x else y) = if c then pureVal P x else pureVal P y := by split <;> rfl
theorem pv_eq_ex {d : Nat} (a b : Nat × ByteArray) : pureVal Try.prog (Op.equalIn (d + 2) 52 (.agg #[.int .i64 (a.1 : Int), .string a.2]) (.agg #[.int .i64 (b.1 : Int), .string b.2])) = some (decide (a = b)) := by
  unfold Op.equalIn
  rw [pv_bind, pv_under Try.underlying52]
  have p0 : ∀ s : Nat × ByteArray, pureVal Try.prog (part 3 #[.int .i64 (s.1 : Int), .string s.2] 0) = some (.int .i64 (s.1 : Int)) := fun s => pv_part1 Try.underlying3 rfl rfl
  have p1 : ∀ s : Nat × ByteArray, pureVal Try.prog (part 9 #[.int .i64 (s.1 : Int), .string s.2] 1) = some (.string s.2) := fun s => pv_part1 Try.underlying9 rfl rfl
  have e0 := pv_eq_int (d := d) (a.1 : Int) (b.1 : Int)
  have e1 := pv_eq_str (d := d) a.2 b.2
  have q0 := p0 a
  have q1 := p0 b
  have q2 := p1 a
  have q3 := p1 b
  have hd : decide (a = b) = (decide ((a.1 : Int) = (b.1 : Int)) && decide (a.2 = b.2)) := by
    obtain ⟨s, t⟩ := a
    obtain ⟨s', t'⟩ := b
    simp only [Prod.mk.injEq, ← Bool.decide_and, Int.natCast_inj]
  rw [hd]
  generalize decide ((a.1 : Int) = (b.1 : Int)) = c0 at *
  generalize decide (a.2 = b.2) = c1 at *
  simp only [Option.bind_some, pv_bind, pv_prog, held_ex, Bool.false_eq_true, if_false, List.forIn_toArray, List.forIn_cons, List.forIn_nil, pv_pure, pv_if, ne_eq, String.reduceEq, not_false_eq_true, if_true, q0, q1, q2, q3, e0, e1]
  cases c0 <;> cases c1 <;> simp [pv_pure, pv_bind, pv_if, q2, q3, e1]
theorem bin_neX (x y : Operand) (s t : Nat × ByteArray) : pureVal Try.prog (do eqGuard .neq 52 x y (.agg #[.int .i64 (s.1 : Int), .string s.2]) (.agg #[.int .i64 (t.1 : Int), .string t.2]); binOp .neq 52 (.agg #[.int .i64 (s.1 : Int), .string s.2]) (.agg #[.int .i64 (t.1 : Int), .string t.2])) = some (.bool (!decide (s = t))) := by
  have hg : Try.prog.eqGuardType Try.prog.depth 52 = false := by kernel_rfl
  have h := pv_eq_ex (d := 9998) s t
  have g : pureVal Try.prog (eqGuard .neq 52 x y (.agg #[.int .i64 (s.1 : Int), .string s.2]) (.agg #[.int .i64 (t.1 : Int), .string t.2])) = some () := by
    simp [eqGuard, pv_bind, pv_prog, pv_pure, hg]
  rw [pv_bind, g, Option.bind_some]
  have e : binOp .neq 52 (.agg #[.int .i64 (s.1 : Int), .string s.2]) (.agg #[.int .i64 (t.1 : Int), .string t.2]) = (do pure (Value.bool (!(← Op.equal 52 (.agg #[.int .i64 (s.1 : Int), .string s.2]) (.agg #[.int .i64 (t.1 : Int), .string t.2]))))) := rfl
  rw [e, pv_bind]
  have h' : pureVal Try.prog (Op.equal 52 (.agg #[.int .i64 (s.1 : Int), .string s.2]) (.agg #[.int .i64 (t.1 : Int), .string t.2])) = some (decide (s = t)) := h
  rw [h']
  rfl
attribute [go_sem] exC
theorem idxX {ex : Bool} {l : List (Nat × ByteArray)} {k : Nat} (h : k < l.length) : aIndexAddr Try.prog 47 (slR exC ex l) (.c (.v (.int .i64 (k : Int)))) = some (.cptr (exC l[k] ++ (l.drop (k + 1)).flatMap exC)) :=
  idx_R exC 2 (fun _ => rfl) Try.underlying47 sz52 (by decide) h
theorem take_next_eq {A : Type} {a b : List A} {k : Nat} (ha : k < a.length) (hb : k < b.length) (h : a.take k = b.take k) (e : a[k] = b[k]) : a.take (k + 1) = b.take (k + 1) := by
  rw [List.take_succ_eq_append_getElem ha, List.take_succ_eq_append_getElem hb, h, e]
theorem sameX_does (a b : List (Nat × ByteArray)) (ex ex2 : Bool) (hl : a.length ≤ 1000000) : Does Try.prog 27 [slR exC ex a, slR exC ex2 b] (fun m => (bA (decide (a = b)), m)) := by
  cases h1 : decide ((a.length : Int) = (b.length : Int)) with
  | false =>
    have hr : decide (a = b) = false := decide_eq_false fun e => of_decide_eq_false h1 (by rw [e])
    refine does_of' Try.func27 rfl (by kernel_rfl) rfl Try.ntmps27 rfl rfl fun Q hQ => ?_
    repeat (first
        | refine tr_seq_k fun _ _ => ?_
        | (refine tr_region ?_; simp only [go_sem, List.getElem?_toArray, str_beq, reduceCtorEq, Nat.reduceEqDiff, Nat.reduceLT, Nat.reduceLeDiff, Nat.reduceAdd, Nat.reduceMul, Nat.reduceSub, Nat.reduceBEq, ↓reduceIte, bne_self_eq_false, Bool.and_false, Bool.false_and, Bool.true_or, Bool.false_or, h1])
        | (refine tr_drawC (id := 6) follows 10000 (by kernel_rfl) ?_; simp only [go_sem, List.getElem?_toArray, str_beq, reduceCtorEq, Nat.reduceEqDiff, Nat.reduceLT, Nat.reduceLeDiff, Nat.reduceAdd, Nat.reduceMul, Nat.reduceSub, Nat.reduceBEq, ↓reduceIte, bne_self_eq_false, Bool.and_false, Bool.false_and, Bool.true_or, Bool.false_or, h1])
        | refine k_of (by assumption) ?_
        | refine tr_block ?_
        | refine tr_scope ?_
        | (refine tr_skip ?_; try simp only [ex_seq, ex_block])
        | (refine tr_label ?_; try simp only [ex_seq, ex_block])
        | (refine tr_exit ?_; try simp only [ex_seq_exit, ex_block_exit, Nat.reduceEqDiff, if_true, if_false, ex_seq, ex_block, reduceCtorEq, ↓reduceIte])
        | (refine tr_ret ?_; try simp only [ex_seq_ret, ex_block_ret]))
    refine tr_cond rfl (fun ht => ?_) (fun hf => ?_)
    · repeat (first
          | refine tr_seq_k fun _ _ => ?_
          | (refine tr_region ?_; simp only [go_sem, List.getElem?_toArray, str_beq, reduceCtorEq, Nat.reduceEqDiff, Nat.reduceLT, Nat.reduceLeDiff, Nat.reduceAdd, Nat.reduceMul, Nat.reduceSub, Nat.reduceBEq, ↓reduceIte, bne_self_eq_false, Bool.and_false, Bool.false_and, Bool.true_or, Bool.false_or])
          | (refine tr_drawC (id := 6) follows 10000 (by kernel_rfl) ?_; simp only [go_sem, List.getElem?_toArray, str_beq, reduceCtorEq, Nat.reduceEqDiff, Nat.reduceLT, Nat.reduceLeDiff, Nat.reduceAdd, Nat.reduceMul, Nat.reduceSub, Nat.reduceBEq, ↓reduceIte, bne_self_eq_false, Bool.and_false, Bool.false_and, Bool.true_or, Bool.false_or])
          | refine k_of (by assumption) ?_
          | refine tr_block ?_
          | refine tr_scope ?_
          | (refine tr_skip ?_; try simp only [ex_seq, ex_block])
          | (refine tr_label ?_; try simp only [ex_seq, ex_block])
          | (refine tr_exit ?_; try simp only [ex_seq_exit, ex_block_exit, Nat.reduceEqDiff, if_true, if_false, ex_seq, ex_block, reduceCtorEq, ↓reduceIte])
          | (refine tr_ret ?_; try simp only [ex_seq_ret, ex_block_ret]))
      refine (hQ _ _ [bA false] ?_ (fun m => ?_)).2 <;> simp only [go_sem, List.getElem?_toArray, str_beq, reduceCtorEq, Nat.reduceEqDiff, Nat.reduceLT, Nat.reduceLeDiff, Nat.reduceAdd, Nat.reduceMul, Nat.reduceSub, Nat.reduceBEq, ↓reduceIte, bne_self_eq_false, Bool.and_false, Bool.false_and, Bool.true_or, Bool.false_or, Try.f27, hr]
    · cases hf
  | true =>
    have hlen : a.length = b.length := by
      have := of_decide_eq_true h1
      omega
    refine does_of' Try.func27 rfl (by kernel_rfl) rfl Try.ntmps27 rfl rfl fun Q hQ => ?_
    repeat (first
        | refine tr_seq_k fun _ _ => ?_
        | (refine tr_region ?_; simp only [go_sem, List.getElem?_toArray, str_beq, reduceCtorEq, Nat.reduceEqDiff, Nat.reduceLT, Nat.reduceLeDiff, Nat.reduceAdd, Nat.reduceMul, Nat.reduceSub, Nat.reduceBEq, ↓reduceIte, bne_self_eq_false, Bool.and_false, Bool.false_and, Bool.true_or, Bool.false_or, h1])
        | (refine tr_drawC (id := 6) follows 10000 (by kernel_rfl) ?_; simp only [go_sem, List.getElem?_toArray, str_beq, reduceCtorEq, Nat.reduceEqDiff, Nat.reduceLT, Nat.reduceLeDiff, Nat.reduceAdd, Nat.reduceMul, Nat.reduceSub, Nat.reduceBEq, ↓reduceIte, bne_self_eq_false, Bool.and_false, Bool.false_and, Bool.true_or, Bool.false_or, h1])
        | refine k_of (by assumption) ?_
        | refine tr_block ?_
        | refine tr_scope ?_
        | (refine tr_skip ?_; try simp only [ex_seq, ex_block])
        | (refine tr_label ?_; try simp only [ex_seq, ex_block])
        | (refine tr_exit ?_; try simp only [ex_seq_exit, ex_block_exit, Nat.reduceEqDiff, if_true, if_false, ex_seq, ex_block, reduceCtorEq, ↓reduceIte])
        | (refine tr_ret ?_; try simp only [ex_seq_ret, ex_block_ret]))
    refine tr_cond rfl (fun ht => ?_) (fun hf => ?_)
    · cases ht
    · repeat (first
          | refine tr_seq_k fun _ _ => ?_
          | (refine tr_region ?_; simp only [go_sem, List.getElem?_toArray, str_beq, reduceCtorEq, Nat.reduceEqDiff, Nat.reduceLT, Nat.reduceLeDiff, Nat.reduceAdd, Nat.reduceMul, Nat.reduceSub, Nat.reduceBEq, ↓reduceIte, bne_self_eq_false, Bool.and_false, Bool.false_and, Bool.true_or, Bool.false_or])
          | (refine tr_drawC (id := 6) follows 10000 (by kernel_rfl) ?_; simp only [go_sem, List.getElem?_toArray, str_beq, reduceCtorEq, Nat.reduceEqDiff, Nat.reduceLT, Nat.reduceLeDiff, Nat.reduceAdd, Nat.reduceMul, Nat.reduceSub, Nat.reduceBEq, ↓reduceIte, bne_self_eq_false, Bool.and_false, Bool.false_and, Bool.true_or, Bool.false_or])
          | refine k_of (by assumption) ?_
          | refine tr_block ?_
          | refine tr_scope ?_
          | (refine tr_skip ?_; try simp only [ex_seq, ex_block])
          | (refine tr_label ?_; try simp only [ex_seq, ex_block])
          | (refine tr_exit ?_; try simp only [ex_seq_exit, ex_block_exit, Nat.reduceEqDiff, if_true, if_false, ex_seq, ex_block, reduceCtorEq, ↓reduceIte])
          | (refine tr_ret ?_; try simp only [ex_seq_ret, ex_block_ret]))
      refine tr_loop_k (σ := Nat) (fun k => [(0, slR exC ex a), (1, slR exC ex2 b), (5, iA k)]) (fun _ => ⟨[], []⟩)
        (fun k => k ≤ a.length ∧ a.take k = b.take k) (fun k => a.length - k) 0 ⟨Nat.zero_le _, rfl⟩ ⟨rfl, rfl, rfl, trivial⟩ rfl ?_
      rintro k ⟨hk, hp⟩ K hK
      repeat (first
          | refine tr_seq_k fun _ _ => ?_
          | (refine tr_region ?_; simp only [go_sem, List.getElem?_toArray, str_beq, reduceCtorEq, Nat.reduceEqDiff, Nat.reduceLT, Nat.reduceLeDiff, Nat.reduceAdd, Nat.reduceMul, Nat.reduceSub, Nat.reduceBEq, ↓reduceIte, bne_self_eq_false, Bool.and_false, Bool.false_and, Bool.true_or, Bool.false_or])
          | (refine tr_drawC (id := 6) follows 10000 (by kernel_rfl) ?_; simp only [go_sem, List.getElem?_toArray, str_beq, reduceCtorEq, Nat.reduceEqDiff, Nat.reduceLT, Nat.reduceLeDiff, Nat.reduceAdd, Nat.reduceMul, Nat.reduceSub, Nat.reduceBEq, ↓reduceIte, bne_self_eq_false, Bool.and_false, Bool.false_and, Bool.true_or, Bool.false_or])
          | refine k_of (by assumption) ?_
          | refine tr_block ?_
          | refine tr_scope ?_
          | (refine tr_skip ?_; try simp only [ex_seq, ex_block])
          | (refine tr_label ?_; try simp only [ex_seq, ex_block])
          | (refine tr_exit ?_; try simp only [ex_seq_exit, ex_block_exit, Nat.reduceEqDiff, if_true, if_false, ex_seq, ex_block, reduceCtorEq, ↓reduceIte])
          | (refine tr_ret ?_; try simp only [ex_seq_ret, ex_block_ret]))
      refine tr_cond rfl (fun ht => ?_) (fun hf => ?_)
      · have hlt : k < a.length := by simpa using ht
        have hlb : k < b.length := by omega
        have ws := wrap_succ (show k ≤ 1000000000 by omega)
        have nB := fun x y => bin_neX x y a[k] b[k]
        simp only [pv_bind] at nB
        cases h2 : decide (a[k] = b[k]) with
        | false =>
          rw [h2] at nB
          have hr : decide (a = b) = false := decide_eq_false fun e => of_decide_eq_false h2 (by subst e; rfl)
          repeat (first
              | refine tr_seq_k fun _ _ => ?_
              | (refine tr_region ?_; simp only [go_sem, List.getElem?_toArray, str_beq, reduceCtorEq, Nat.reduceEqDiff, Nat.reduceLT, Nat.reduceLeDiff, Nat.reduceAdd, Nat.reduceMul, Nat.reduceSub, Nat.reduceBEq, ↓reduceIte, bne_self_eq_false, Bool.and_false, Bool.false_and, Bool.true_or, Bool.false_or, idxX hlt, idxX hlb, nB])
              | (refine tr_drawC (id := 6) follows 10000 (by kernel_rfl) ?_; simp only [go_sem, List.getElem?_toArray, str_beq, reduceCtorEq, Nat.reduceEqDiff, Nat.reduceLT, Nat.reduceLeDiff, Nat.reduceAdd, Nat.reduceMul, Nat.reduceSub, Nat.reduceBEq, ↓reduceIte, bne_self_eq_false, Bool.and_false, Bool.false_and, Bool.true_or, Bool.false_or, idxX hlt, idxX hlb, nB])
              | refine k_of (by assumption) ?_
              | refine tr_block ?_
              | refine tr_scope ?_
              | (refine tr_skip ?_; try simp only [ex_seq, ex_block])
              | (refine tr_label ?_; try simp only [ex_seq, ex_block])
              | (refine tr_exit ?_; try simp only [ex_seq_exit, ex_block_exit, Nat.reduceEqDiff, if_true, if_false, ex_seq, ex_block, reduceCtorEq, ↓reduceIte])
              | (refine tr_ret ?_; try simp only [ex_seq_ret, ex_block_ret]))
          refine tr_cond rfl (fun ht => ?_) (fun hf => ?_)
          · repeat (first
                | refine tr_seq_k fun _ _ => ?_
                | (refine tr_region ?_; simp only [go_sem, List.getElem?_toArray, str_beq, reduceCtorEq, Nat.reduceEqDiff, Nat.reduceLT, Nat.reduceLeDiff, Nat.reduceAdd, Nat.reduceMul, Nat.reduceSub, Nat.reduceBEq, ↓reduceIte, bne_self_eq_false, Bool.and_false, Bool.false_and, Bool.true_or, Bool.false_or])
                | (refine tr_drawC (id := 6) follows 10000 (by kernel_rfl) ?_; simp only [go_sem, List.getElem?_toArray, str_beq, reduceCtorEq, Nat.reduceEqDiff, Nat.reduceLT, Nat.reduceLeDiff, Nat.reduceAdd, Nat.reduceMul, Nat.reduceSub, Nat.reduceBEq, ↓reduceIte, bne_self_eq_false, Bool.and_false, Bool.false_and, Bool.true_or, Bool.false_or])
                | refine k_of (by assumption) ?_
                | refine tr_block ?_
                | refine tr_scope ?_
                | (refine tr_skip ?_; try simp only [ex_seq, ex_block])
                | (refine tr_label ?_; try simp only [ex_seq, ex_block])
                | (refine tr_exit ?_; try simp only [ex_seq_exit, ex_block_exit, Nat.reduceEqDiff, if_true, if_false, ex_seq, ex_block, reduceCtorEq, ↓reduceIte])
                | (refine tr_ret ?_; try simp only [ex_seq_ret, ex_block_ret]))
            refine (hQ _ _ [bA false] ?_ (fun m => ?_)).2 <;> simp only [go_sem, List.getElem?_toArray, str_beq, reduceCtorEq, Nat.reduceEqDiff, Nat.reduceLT, Nat.reduceLeDiff, Nat.reduceAdd, Nat.reduceMul, Nat.reduceSub, Nat.reduceBEq, ↓reduceIte, bne_self_eq_false, Bool.and_false, Bool.false_and, Bool.true_or, Bool.false_or, Try.f27, hr]
          · cases hf
        | true =>
          rw [h2] at nB
          repeat (first
              | refine tr_seq_k fun _ _ => ?_
              | (refine tr_region ?_; simp only [go_sem, List.getElem?_toArray, str_beq, reduceCtorEq, Nat.reduceEqDiff, Nat.reduceLT, Nat.reduceLeDiff, Nat.reduceAdd, Nat.reduceMul, Nat.reduceSub, Nat.reduceBEq, ↓reduceIte, bne_self_eq_false, Bool.and_false, Bool.false_and, Bool.true_or, Bool.false_or, idxX hlt, idxX hlb, nB])
              | (refine tr_drawC (id := 6) follows 10000 (by kernel_rfl) ?_; simp only [go_sem, List.getElem?_toArray, str_beq, reduceCtorEq, Nat.reduceEqDiff, Nat.reduceLT, Nat.reduceLeDiff, Nat.reduceAdd, Nat.reduceMul, Nat.reduceSub, Nat.reduceBEq, ↓reduceIte, bne_self_eq_false, Bool.and_false, Bool.false_and, Bool.true_or, Bool.false_or, idxX hlt, idxX hlb, nB])
              | refine k_of (by assumption) ?_
              | refine tr_block ?_
              | refine tr_scope ?_
              | (refine tr_skip ?_; try simp only [ex_seq, ex_block])
              | (refine tr_label ?_; try simp only [ex_seq, ex_block])
              | (refine tr_exit ?_; try simp only [ex_seq_exit, ex_block_exit, Nat.reduceEqDiff, if_true, if_false, ex_seq, ex_block, reduceCtorEq, ↓reduceIte])
              | (refine tr_ret ?_; try simp only [ex_seq_ret, ex_block_ret]))
          refine tr_cond rfl (fun ht => ?_) (fun hf => ?_)
          · cases ht
          · repeat (first
                | refine tr_seq_k fun _ _ => ?_
                | (refine tr_region ?_; simp only [go_sem, List.getElem?_toArray, str_beq, reduceCtorEq, Nat.reduceEqDiff, Nat.reduceLT, Nat.reduceLeDiff, Nat.reduceAdd, Nat.reduceMul, Nat.reduceSub, Nat.reduceBEq, ↓reduceIte, bne_self_eq_false, Bool.and_false, Bool.false_and, Bool.true_or, Bool.false_or, ws])
                | (refine tr_drawC (id := 6) follows 10000 (by kernel_rfl) ?_; simp only [go_sem, List.getElem?_toArray, str_beq, reduceCtorEq, Nat.reduceEqDiff, Nat.reduceLT, Nat.reduceLeDiff, Nat.reduceAdd, Nat.reduceMul, Nat.reduceSub, Nat.reduceBEq, ↓reduceIte, bne_self_eq_false, Bool.and_false, Bool.false_and, Bool.true_or, Bool.false_or, ws])
                | refine k_of (by assumption) ?_
                | refine tr_block ?_
                | refine tr_scope ?_
                | (refine tr_skip ?_; try simp only [ex_seq, ex_block])
                | (refine tr_label ?_; try simp only [ex_seq, ex_block])
                | (refine tr_exit ?_; try simp only [ex_seq_exit, ex_block_exit, Nat.reduceEqDiff, if_true, if_false, ex_seq, ex_block, reduceCtorEq, ↓reduceIte])
                | (refine tr_ret ?_; try simp only [ex_seq_ret, ex_block_ret]))
            exact hK (k + 1) _ _ ⟨hlt, take_next_eq hlt hlb hp (of_decide_eq_true h2)⟩ ⟨⟨rfl, rfl, rfl, trivial⟩, Keep.refl _, rfl, rfl, Nat.le_refl _, Nat.le_refl _⟩ (by omega)
      · have hkl : k = a.length := by
          have := of_decide_eq_false hf
          omega
        have hr : decide (a = b) = true := by
          rw [hkl, List.take_length, hlen, List.take_length] at hp
          exact decide_eq_true hp
        repeat (first
            | refine tr_seq_k fun _ _ => ?_
            | (refine tr_region ?_; simp only [go_sem, List.getElem?_toArray, str_beq, reduceCtorEq, Nat.reduceEqDiff, Nat.reduceLT, Nat.reduceLeDiff, Nat.reduceAdd, Nat.reduceMul, Nat.reduceSub, Nat.reduceBEq, ↓reduceIte, bne_self_eq_false, Bool.and_false, Bool.false_and, Bool.true_or, Bool.false_or])
            | (refine tr_drawC (id := 6) follows 10000 (by kernel_rfl) ?_; simp only [go_sem, List.getElem?_toArray, str_beq, reduceCtorEq, Nat.reduceEqDiff, Nat.reduceLT, Nat.reduceLeDiff, Nat.reduceAdd, Nat.reduceMul, Nat.reduceSub, Nat.reduceBEq, ↓reduceIte, bne_self_eq_false, Bool.and_false, Bool.false_and, Bool.true_or, Bool.false_or])
            | refine k_of (by assumption) ?_
            | refine tr_block ?_
            | refine tr_scope ?_
            | (refine tr_skip ?_; try simp only [ex_seq, ex_block])
            | (refine tr_label ?_; try simp only [ex_seq, ex_block])
            | (refine tr_exit ?_; try simp only [ex_seq_exit, ex_block_exit, Nat.reduceEqDiff, if_true, if_false, ex_seq, ex_block, reduceCtorEq, ↓reduceIte])
            | (refine tr_ret ?_; try simp only [ex_seq_ret, ex_block_ret]))
        refine (hQ _ _ [bA true] ?_ (fun m => ?_)).2 <;> simp only [go_sem, List.getElem?_toArray, str_beq, reduceCtorEq, Nat.reduceEqDiff, Nat.reduceLT, Nat.reduceLeDiff, Nat.reduceAdd, Nat.reduceMul, Nat.reduceSub, Nat.reduceBEq, ↓reduceIte, bne_self_eq_false, Bool.and_false, Bool.false_and, Bool.true_or, Bool.false_or, Try.f27, hr]

/-- A call. -/
structure Ac where
  kind : Int
  text : ByteArray
  n : Int
def acC (a : Ac) : List CV := [.v (.int .i64 a.kind), .v (.string a.text), .v (.int .i64 a.n)]
attribute [go_sem] acC
theorem idxA {ex : Bool} {l : List Ac} {k : Nat} (h : k < l.length) : aIndexAddr Try.prog 41 (slR acC ex l) (.c (.v (.int .i64 (k : Int)))) = some (.cptr (acC l[k] ++ (l.drop (k + 1)).flatMap acC)) :=
  idx_R acC 3 (fun _ => rfl) Try.underlying41 sz46 (by decide) h
def lightS (l : List Ac) : Bool := l.all (fun a => decide (a.text.size ≤ 300)) && decide (l.length ≤ 80)
theorem light_does (l : List Ac) (ex : Bool) (hl : l.length ≤ maxLen) : Does Try.prog 18 [slR acC ex l] (fun m => (bA (lightS l), m)) := by
  refine does_of' Try.func18 rfl (by kernel_rfl) rfl Try.ntmps18 rfl rfl fun Q hQ => ?_
  repeat (first
      | refine tr_seq_k fun _ _ => ?_
      | (refine tr_region ?_; simp only [go_sem, List.getElem?_toArray, str_beq, reduceCtorEq, Nat.reduceEqDiff, Nat.reduceLT, Nat.reduceLeDiff, Nat.reduceAdd, Nat.reduceMul, Nat.reduceSub, Nat.reduceBEq, ↓reduceIte, bne_self_eq_false, Bool.and_false, Bool.false_and, Bool.true_or, Bool.false_or])
      | refine k_of (by assumption) ?_
      | refine tr_block ?_
      | refine tr_scope ?_
      | (refine tr_skip ?_; try simp only [ex_seq, ex_block])
      | (refine tr_label ?_; try simp only [ex_seq, ex_block])
      | (refine tr_exit ?_; try simp only [ex_seq_exit, ex_block_exit, Nat.reduceEqDiff, if_true, if_false, ex_seq, ex_block, reduceCtorEq, ↓reduceIte])
      | (refine tr_ret ?_; try simp only [ex_seq_ret, ex_block_ret]))
  refine tr_loop_k (σ := Nat) (fun k => [(0, slR acC ex l), (3, iA k)]) (fun _ => ⟨[], []⟩)
    (fun k => k ≤ l.length ∧ ∀ j (hj : j < l.length), j < k → l[j].text.size ≤ 300) (fun k => l.length - k) 0 ⟨Nat.zero_le _, fun j _ h => absurd h (Nat.not_lt_zero _)⟩ ⟨rfl, rfl, trivial⟩ rfl ?_
  rintro k ⟨hk, hp⟩ K hK
  repeat (first
      | refine tr_seq_k fun _ _ => ?_
      | (refine tr_region ?_; simp only [go_sem, List.getElem?_toArray, str_beq, reduceCtorEq, Nat.reduceEqDiff, Nat.reduceLT, Nat.reduceLeDiff, Nat.reduceAdd, Nat.reduceMul, Nat.reduceSub, Nat.reduceBEq, ↓reduceIte, bne_self_eq_false, Bool.and_false, Bool.false_and, Bool.true_or, Bool.false_or])
      | refine k_of (by assumption) ?_
      | refine tr_block ?_
      | refine tr_scope ?_
      | (refine tr_skip ?_; try simp only [ex_seq, ex_block])
      | (refine tr_label ?_; try simp only [ex_seq, ex_block])
      | (refine tr_exit ?_; try simp only [ex_seq_exit, ex_block_exit, Nat.reduceEqDiff, if_true, if_false, ex_seq, ex_block, reduceCtorEq, ↓reduceIte])
      | (refine tr_ret ?_; try simp only [ex_seq_ret, ex_block_ret]))
  refine tr_cond rfl (fun ht => ?_) (fun hf => ?_)
  · have hlt : k < l.length := by simpa using ht
    have ws : IntKind.i64.wrap ((k : Int) + 1) = ((k + 1 : Nat) : Int) := by
      unfold maxLen at hl
      rw [wrap_in (by omega)]
      rfl
    cases h2 : decide ((300 : Int) < (l[k].text.size : Nat)) with
    | true =>
      have hr : lightS l = false := by
        unfold lightS
        rw [Bool.and_eq_false_iff]
        left
        rw [List.all_eq_false]
        refine ⟨l[k], List.getElem_mem hlt, ?_⟩
        have := of_decide_eq_true h2
        simp only [decide_eq_true_eq]
        omega
      repeat (first
          | refine tr_seq_k fun _ _ => ?_
          | (refine tr_region ?_; simp only [go_sem, List.getElem?_toArray, str_beq, reduceCtorEq, Nat.reduceEqDiff, Nat.reduceLT, Nat.reduceLeDiff, Nat.reduceAdd, Nat.reduceMul, Nat.reduceSub, Nat.reduceBEq, ↓reduceIte, bne_self_eq_false, Bool.and_false, Bool.false_and, Bool.true_or, Bool.false_or, idxA hlt, h2])
          | refine k_of (by assumption) ?_
          | refine tr_block ?_
          | refine tr_scope ?_
          | (refine tr_skip ?_; try simp only [ex_seq, ex_block])
          | (refine tr_label ?_; try simp only [ex_seq, ex_block])
          | (refine tr_exit ?_; try simp only [ex_seq_exit, ex_block_exit, Nat.reduceEqDiff, if_true, if_false, ex_seq, ex_block, reduceCtorEq, ↓reduceIte])
          | (refine tr_ret ?_; try simp only [ex_seq_ret, ex_block_ret]))
      refine tr_cond rfl (fun ht => ?_) (fun hf => ?_)
      · repeat (first
            | refine tr_seq_k fun _ _ => ?_
            | (refine tr_region ?_; simp only [go_sem, List.getElem?_toArray, str_beq, reduceCtorEq, Nat.reduceEqDiff, Nat.reduceLT, Nat.reduceLeDiff, Nat.reduceAdd, Nat.reduceMul, Nat.reduceSub, Nat.reduceBEq, ↓reduceIte, bne_self_eq_false, Bool.and_false, Bool.false_and, Bool.true_or, Bool.false_or])
            | refine k_of (by assumption) ?_
            | refine tr_block ?_
            | refine tr_scope ?_
            | (refine tr_skip ?_; try simp only [ex_seq, ex_block])
            | (refine tr_label ?_; try simp only [ex_seq, ex_block])
            | (refine tr_exit ?_; try simp only [ex_seq_exit, ex_block_exit, Nat.reduceEqDiff, if_true, if_false, ex_seq, ex_block, reduceCtorEq, ↓reduceIte])
            | (refine tr_ret ?_; try simp only [ex_seq_ret, ex_block_ret]))
        refine (hQ _ _ [bA false] ?_ (fun m => ?_)).2 <;> simp only [go_sem, List.getElem?_toArray, str_beq, reduceCtorEq, Nat.reduceEqDiff, Nat.reduceLT, Nat.reduceLeDiff, Nat.reduceAdd, Nat.reduceMul, Nat.reduceSub, Nat.reduceBEq, ↓reduceIte, bne_self_eq_false, Bool.and_false, Bool.false_and, Bool.true_or, Bool.false_or, Try.f18, hr]
      · cases hf
    | false =>
      have h2' := of_decide_eq_false h2
      repeat (first
          | refine tr_seq_k fun _ _ => ?_
          | (refine tr_region ?_; simp only [go_sem, List.getElem?_toArray, str_beq, reduceCtorEq, Nat.reduceEqDiff, Nat.reduceLT, Nat.reduceLeDiff, Nat.reduceAdd, Nat.reduceMul, Nat.reduceSub, Nat.reduceBEq, ↓reduceIte, bne_self_eq_false, Bool.and_false, Bool.false_and, Bool.true_or, Bool.false_or, idxA hlt, h2])
          | refine k_of (by assumption) ?_
          | refine tr_block ?_
          | refine tr_scope ?_
          | (refine tr_skip ?_; try simp only [ex_seq, ex_block])
          | (refine tr_label ?_; try simp only [ex_seq, ex_block])
          | (refine tr_exit ?_; try simp only [ex_seq_exit, ex_block_exit, Nat.reduceEqDiff, if_true, if_false, ex_seq, ex_block, reduceCtorEq, ↓reduceIte])
          | (refine tr_ret ?_; try simp only [ex_seq_ret, ex_block_ret]))
      refine tr_cond rfl (fun ht => ?_) (fun hf => ?_)
      · cases ht
      · repeat (first
            | refine tr_seq_k fun _ _ => ?_
            | (refine tr_region ?_; simp only [go_sem, List.getElem?_toArray, str_beq, reduceCtorEq, Nat.reduceEqDiff, Nat.reduceLT, Nat.reduceLeDiff, Nat.reduceAdd, Nat.reduceMul, Nat.reduceSub, Nat.reduceBEq, ↓reduceIte, bne_self_eq_false, Bool.and_false, Bool.false_and, Bool.true_or, Bool.false_or, ws])
            | refine k_of (by assumption) ?_
            | refine tr_block ?_
            | refine tr_scope ?_
            | (refine tr_skip ?_; try simp only [ex_seq, ex_block])
            | (refine tr_label ?_; try simp only [ex_seq, ex_block])
            | (refine tr_exit ?_; try simp only [ex_seq_exit, ex_block_exit, Nat.reduceEqDiff, if_true, if_false, ex_seq, ex_block, reduceCtorEq, ↓reduceIte])
            | (refine tr_ret ?_; try simp only [ex_seq_ret, ex_block_ret]))
        exact hK (k + 1) _ _ ⟨hlt, fun j hj hjk => by
          rcases Nat.lt_succ_iff_lt_or_eq.1 hjk with h | rfl
          · exact hp j hj h
          · omega⟩ ⟨⟨rfl, rfl, trivial⟩, Keep.refl _, rfl, rfl, Nat.le_refl _, Nat.le_refl _⟩ (by omega)
  · have hkl : k = l.length := by
      have := of_decide_eq_false hf
      omega
    have hr : lightS l = decide ((l.length : Int) ≤ 80) := by
      unfold lightS
      have : l.all (fun a => decide (a.text.size ≤ 300)) = true := by
        rw [List.all_eq_true]
        intro a ha
        obtain ⟨j, hj, rfl⟩ := List.mem_iff_getElem.1 ha
        exact decide_eq_true (hp j hj (by omega))
      rw [this, Bool.true_and]
      exact decide_eq_decide.2 (by omega)
    repeat (first
        | refine tr_seq_k fun _ _ => ?_
        | (refine tr_region ?_; simp only [go_sem, List.getElem?_toArray, str_beq, reduceCtorEq, Nat.reduceEqDiff, Nat.reduceLT, Nat.reduceLeDiff, Nat.reduceAdd, Nat.reduceMul, Nat.reduceSub, Nat.reduceBEq, ↓reduceIte, bne_self_eq_false, Bool.and_false, Bool.false_and, Bool.true_or, Bool.false_or])
        | refine k_of (by assumption) ?_
        | refine tr_block ?_
        | refine tr_scope ?_
        | (refine tr_skip ?_; try simp only [ex_seq, ex_block])
        | (refine tr_label ?_; try simp only [ex_seq, ex_block])
        | (refine tr_exit ?_; try simp only [ex_seq_exit, ex_block_exit, Nat.reduceEqDiff, if_true, if_false, ex_seq, ex_block, reduceCtorEq, ↓reduceIte])
        | (refine tr_ret ?_; try simp only [ex_seq_ret, ex_block_ret]))
    refine (hQ _ _ [bA (decide ((l.length : Int) ≤ 80))] ?_ (fun m => ?_)).2 <;> simp only [go_sem, List.getElem?_toArray, str_beq, reduceCtorEq, Nat.reduceEqDiff, Nat.reduceLT, Nat.reduceLeDiff, Nat.reduceAdd, Nat.reduceMul, Nat.reduceSub, Nat.reduceBEq, ↓reduceIte, bne_self_eq_false, Bool.and_false, Bool.false_and, Bool.true_or, Bool.false_or, Try.f18, hr]
end Go.Proofs.Ytlhlcfijpdknfaa

/-
  Chapter 2: InternScript.
-/
set_option linter.unusedSimpArgs false
set_option linter.unusedVariables false
namespace Go.Proofs.Ytlhlcfijpdknfaa
open Go.Vs Go.Vs.Ab Go.Vs.Hp Go.Vs.Tb
set_option maxRecDepth 100000
set_option maxHeartbeats 4000000

theorem RowAt.slt {m : Mm} {T : Type} {enc : T → List CV} {size : Nat} {c : AV} {l : List T} {s : List Nat} (h : RowAt m enc size c l s) : ∀ i ∈ s, i < m.hp.length := by
  rcases h with ⟨_, _, rfl⟩ | ⟨b, L, _, rfl, h3, _⟩
  · intro i hi; cases hi
  · intro i hi
    rw [List.mem_singleton] at hi
    subst hi
    exact (List.getElem?_eq_some_iff.1 h3).1
theorem TabM.slt {m : Mm} {b : Nat} {E : List Ent} {S : List Nat} (h : TabM m b E S) : ∀ i ∈ S, i < m.hp.length := by
  obtain ⟨c1, c2, mb, F, N, s1, s2, hb, hF, hE, hN, hI, hS, hnd⟩ := h
  subst hS
  intro i hi
  simp only [List.mem_cons, List.mem_append] at hi
  rcases hi with rfl | rfl | hi | hi
  · exact (List.getElem?_eq_some_iff.1 hb).1
  · exact (List.getElem?_eq_some_iff.1 hN).1
  · exact hF.slt i hi
  · exact hE.slt i hi
theorem RefM.slt {m : Mm} {b : Nat} {E : List Ent} {S : List Nat} (h : RefM m b E S) : ∀ i ∈ S, i < m.hp.length := by
  obtain ⟨c1, c2, s1, s2, hb, hF, hE, hS, hnd⟩ := h
  subst hS
  intro i hi
  simp only [List.mem_cons, List.mem_append] at hi
  rcases hi with rfl | hi | hi
  · exact (List.getElem?_eq_some_iff.1 hb).1
  · exact hF.slt i hi
  · exact hE.slt i hi
theorem TabM.used {m : Mm} {b : Nat} {E : List Ent} {S : List Nat} (h : TabM m b E S) : ∀ e ∈ E, e.1 ≠ emp → 0 < e.2 := by
  obtain ⟨c1, c2, mb, F, N, s1, s2, hb, hF, hE, hN, hI, hS, hnd⟩ := h
  intro e he hne
  obtain ⟨i, hi, rfl⟩ := List.mem_iff_getElem.1 he
  have := hI.zero i E[i] (List.getElem?_eq_getElem hi)
  have : (E[i]).2 ≠ 0 := fun e => hne (this.1 e)
  omega
theorem Kp.addB {m : Mm} (hW : Wf m) {nb : Blk} (hl : lows (m.hp.length + 1) m.hw.length nb.cs = true) : Kp m ⟨m.hp ++ [nb], m.hw⟩ [] [m.hp.length] :=
  ⟨rfl, by simp, fun i blk _ h => by
    have := (List.getElem?_eq_some_iff.1 h).1
    show (m.hp ++ [nb])[i]? = _
    rw [List.getElem?_append_left this]
    exact h, fun i h => Or.inr (by simp at h; omega), hW.add hl⟩

/-- Entries that may be met after u calls. -/
structure Fine (E : List Ent) (u : Nat) : Prop where
  len : E.length ≤ u
  use : ∀ e ∈ E, e.2 ≤ u
  size : ∀ e ∈ E, e.1.size ≤ 255
theorem mem_set_or {T : Type} {l : List T} {k : Nat} {x e : T} (h : e ∈ l.set k x) : e = x ∨ e ∈ l := by
  rcases List.mem_or_eq_of_mem_set h with h | h
  · exact Or.inr h
  · exact Or.inl h
theorem Fine.mono {E : List Ent} {u v : Nat} (h : Fine E u) (hv : u ≤ v) : Fine E v := ⟨Nat.le_trans h.len hv, fun e he => Nat.le_trans (h.use e he) hv, h.size⟩
theorem Fine.take {E : List Ent} {u : Nat} (h : Fine E u) (s : ByteArray) : Fine (takeS E s).2 (u + 1) := by
  have h1 := h.mono (Nat.le_succ u)
  unfold takeS
  by_cases hs : s.size < 1 ∨ 255 < s.size
  · rw [if_pos hs]; exact h1
  · rw [if_neg hs]
    have hs2 : s.size ≤ 255 := by omega
    cases hf : findS E s with
    | some n =>
      obtain ⟨hse, hn, _⟩ := findS_some hf
      have hgd : (E.getD n (emp, 0)).2 ≤ u := by
        rw [getD_at hn]
        exact h.use _ (List.getElem_mem hn)
      refine ⟨by show (E.set _ _).length ≤ _; rw [List.length_set]; exact h1.len, fun e he => ?_, fun e he => ?_⟩
      · rcases mem_set_or he with rfl | he
        · show _ + 1 ≤ _; omega
        · exact h1.use e he
      · rcases mem_set_or he with rfl | he
        · exact hs2
        · exact h.size e he
    | none =>
      dsimp only
      split
      · exact h1
      · have h01 : (1 : Nat) ≤ u + 1 := by omega
        dsimp only
        split
        · refine ⟨by rw [List.length_append]; have := h.len; simp; omega, fun e he => ?_, fun e he => ?_⟩
          · rcases List.mem_append.1 he with he | he
            · exact h1.use e he
            · rw [List.mem_singleton] at he; subst he; exact h01
          · rcases List.mem_append.1 he with he | he
            · exact h.size e he
            · rw [List.mem_singleton] at he; subst he; exact hs2
        · refine ⟨by rw [List.length_set]; exact h1.len, fun e he => ?_, fun e he => ?_⟩
          · rcases mem_set_or he with rfl | he
            · exact h01
            · exact h1.use e he
          · rcases mem_set_or he with rfl | he
            · exact hs2
            · exact h.size e he
theorem Fine.drop {E : List Ent} {u : Nat} (h : Fine E u) (n : Int) : Fine (dropS E n).2 (u + 1) := by
  have h1 := h.mono (Nat.le_succ u)
  unfold dropS
  split
  · rename_i hh
    obtain ⟨k, rfl, hk, _⟩ := hasS_spec hh
    rw [Int.toNat_natCast, getD_at hk]
    have hu := h.use _ (List.getElem_mem hk)
    have hz := h.size _ (List.getElem_mem hk)
    dsimp only
    split
    · refine ⟨by rw [List.length_set]; exact h1.len, fun e he => ?_, fun e he => ?_⟩
      · rcases mem_set_or he with rfl | he
        · exact Nat.zero_le _
        · exact h1.use e he
      · rcases mem_set_or he with rfl | he
        · exact Nat.zero_le _
        · exact h.size e he
    · refine ⟨by rw [List.length_set]; exact h1.len, fun e he => ?_, fun e he => ?_⟩
      · rcases mem_set_or he with rfl | he
        · show _ - 1 ≤ _; omega
        · exact h1.use e he
      · rcases mem_set_or he with rfl | he
        · exact hz
        · exact h.size e he
  · exact h1

/-- Both tables in memory. -/
structure Two (m : Mm) (bt br : Nat) (E : List Ent) (S1 S2 : List Nat) : Prop where
  tab : TabM m bt E S1
  ref : RefM m br E S2
  dis : ∀ i ∈ S1, i ∉ S2
  wf : Wf m
theorem Two.add {m : Mm} {bt br : Nat} {E : List Ent} {S1 S2 : List Nat} (h : Two m bt br E S1 S2) {nb : Blk} (hl : lows (m.hp.length + 1) m.hw.length nb.cs = true) : Two ⟨m.hp ++ [nb], m.hw⟩ bt br E S1 S2 :=
  have k := Kp.addB h.wf hl
  ⟨h.tab.keep k (fun _ _ h => by cases h), h.ref.keep k (fun _ _ h => by cases h), h.dis, k.wf⟩
theorem Two.next {m m2 m3 : Mm} {bt br : Nat} {E E2 : List Ent} {S1 S2 S1' S2' : List Nat} (h : Two m bt br E S1 S2) (t2 : TabM m2 bt E2 S1') (k2 : Kp m m2 S1 S1') (r3 : RefM m3 br E2 S2') (k3 : Kp m2 m3 S2 S2') : Two m3 bt br E2 S1' S2' := by
  have d : ∀ i ∈ S1', i ∉ S2 := fun i hi h2 => by
    rcases k2.new i hi with h3 | h3
    · exact h.dis i h3 h2
    · have := h.ref.slt i h2; omega
  refine ⟨t2.keep k3 d, r3, fun i hi h2 => ?_, k3.wf⟩
  rcases k3.new i h2 with h3 | h3
  · exact d i hi h3
  · have := t2.slt i hi; omega
theorem Two.start {mA mB : Mm} {bt br : Nat} {SA SB : List Nat} (tA : TabM mA bt [] SA) (rB : RefM mB br [] SB) (kB : Kp mA mB [] SB) : Two mB bt br [] SA SB :=
  ⟨tA.keep kB (fun _ _ h => by cases h), rB, fun i hi h2 => by
    rcases kB.new i h2 with h3 | h3
    · cases h3
    · have := tA.slt i hi; omega, kB.wf⟩
end Go.Proofs.Ytlhlcfijpdknfaa

/-
  Chapter 2, InternLeast: a map from texts to counts, plain; looked up and written in memory.
-/
set_option linter.unusedSimpArgs false
set_option linter.unusedVariables false
namespace Go.Proofs.Ytlhlcfijpdknfaa
open Go.Vs Go.Vs.Ab Go.Vs.Hp Go.Vs.Tb
set_option maxRecDepth 100000
set_option maxHeartbeats 4000000

/-- A text's count (the first entry's), 0 where there is none. -/
def getL : List (ByteArray × Nat) → ByteArray → Nat
  | [], _ => 0
  | p :: r, s => if p.1 = s then p.2 else getL r s
def putL : List (ByteArray × Nat) → ByteArray → Nat → List (ByteArray × Nat)
  | [], s, v => [(s, v)]
  | p :: r, s, v => if p.1 = s then (s, v) :: r else p :: putL r s v
def totL : List (ByteArray × Nat) → Nat
  | [] => 0
  | p :: r => p.2 + totL r
theorem getL_put (N : List (ByteArray × Nat)) (s : ByteArray) (v : Nat) (t : ByteArray) : getL (putL N s v) t = if s = t then v else getL N t := by
  induction N with
  | nil => rfl
  | cons p r ih =>
    unfold putL
    by_cases h : p.1 = s
    · rw [if_pos h]
      unfold getL
      by_cases h2 : s = t
      · simp [h2]
      · simp only [h2, if_false]
        have : ¬ p.1 = t := fun e => h2 (h.symm.trans e)
        rw [if_neg this]
    · rw [if_neg h]
      unfold getL
      by_cases h2 : p.1 = t
      · have : ¬ s = t := fun e => h (h2.trans e.symm)
        simp [h2, this]
      · rw [if_neg h2, if_neg h2, ih]
theorem tot_put (N : List (ByteArray × Nat)) (s : ByteArray) (v : Nat) : totL (putL N s v) + getL N s = totL N + v := by
  induction N with
  | nil => simp [putL, totL, getL]
  | cons p r ih =>
    unfold putL getL
    by_cases h : p.1 = s
    · simp only [h, if_true, totL]; omega
    · simp only [h, if_false, totL]; omega
theorem keys_put (N : List (ByteArray × Nat)) (s : ByteArray) (v : Nat) : ∀ t, t ∈ (putL N s v).map Prod.fst ↔ t = s ∨ t ∈ N.map Prod.fst := by
  induction N with
  | nil => intro t; simp [putL]
  | cons p r ih =>
    intro t
    unfold putL
    by_cases h : p.1 = s
    · simp [h]
    · rw [if_neg h, List.map_cons, List.mem_cons, ih, List.map_cons, List.mem_cons]
      constructor
      · rintro (h | h | h) <;> simp [h]
      · rintro (h | h | h) <;> simp [h]
theorem put_len (N : List (ByteArray × Nat)) (s : ByteArray) (v : Nat) : (putL N s v).length ≤ N.length + 1 := by
  induction N with
  | nil => simp [putL]
  | cons p r ih =>
    unfold putL
    split
    · simp
    · simp only [List.length_cons]; omega
theorem getL_none {N : List (ByteArray × Nat)} {s : ByteArray} (h : s ∉ N.map Prod.fst) : getL N s = 0 := by
  induction N with
  | nil => rfl
  | cons p r ih =>
    simp only [List.map_cons, List.mem_cons, not_or] at h
    unfold getL
    rw [if_neg (fun e => h.1 e.symm), ih h.2]
theorem getL_le (N : List (ByteArray × Nat)) (s : ByteArray) : getL N s ≤ totL N := by
  induction N with
  | nil => exact Nat.le_refl _
  | cons p r ih =>
    unfold getL totL
    split <;> omega
theorem find_getL (N : List (ByteArray × Nat)) (s : ByteArray) : ∀ i, (s ∈ N.map Prod.fst → findE (N.map fun p => (p.1, Value.int .i64 (p.2 : Nat))) s i = some (i + posOf (N.map Prod.fst) s, .int .i64 (getL N s : Nat))) ∧ (s ∉ N.map Prod.fst → findE (N.map fun p => (p.1, Value.int .i64 (p.2 : Nat))) s i = none) := by
  induction N with
  | nil => intro i; exact ⟨fun h => by simp at h, fun _ => rfl⟩
  | cons p r ih =>
    intro i
    simp only [List.map_cons, findE, posOf, getL, List.mem_cons]
    by_cases h : p.1 = s
    · simp [h]
    · simp only [h, if_false]
      have hs : ¬ s = p.1 := fun e => h e.symm
      simp only [hs, false_or]
      refine ⟨fun hm => ?_, fun hm => (ih (i + 1)).2 hm⟩
      rw [(ih (i + 1)).1 hm]
      congr 2
      omega
theorem putL_set {N : List (ByteArray × Nat)} {s : ByteArray} (h : s ∈ N.map Prod.fst) (v : Nat) : putL N s v = N.set (posOf (N.map Prod.fst) s) (s, v) := by
  induction N with
  | nil => simp at h
  | cons p r ih =>
    unfold putL
    simp only [List.map_cons, posOf]
    by_cases h2 : p.1 = s
    · simp [h2]
    · simp only [h2, if_false, List.set_cons_succ]
      rw [ih]
      simp only [List.map_cons, List.mem_cons] at h
      exact h.resolve_left fun e => h2 e.symm
theorem putL_app {N : List (ByteArray × Nat)} {s : ByteArray} (h : s ∉ N.map Prod.fst) (v : Nat) : putL N s v = N ++ [(s, v)] := by
  induction N with
  | nil => rfl
  | cons p r ih =>
    simp only [List.map_cons, List.mem_cons, not_or] at h
    unfold putL
    rw [if_neg (fun e => h.1 e.symm), ih h.2]
    rfl

theorem same_str (s : ByteArray) : Instr.sameBits 10000 (.string s) (.string s) = true := by
  simp [Instr.sameBits, ba_beq]
theorem und_map : Try.prog.underlying 56 = some (.map 9 3) := Try.underlying56
/-- m[s], where the block b is a map of counts. -/
theorem look_cnt {m : Mm} {b : Nat} {N : List (ByteArray × Nat)} (hb : m.hp[b]? = some ⟨false, [.ent (nmI N)]⟩) (s : ByteArray) : aLookup Try.prog m 56 (.mapp b) (.string s) false = some (iA (getL N s : Nat)) := by
  have hat : aMapAt m (.mapp b) = some (b, nmI N) := by
    simp only [aMapAt, hb, blkEnt_ent]
    rfl
  unfold aLookup
  rw [und_map, hat]
  show (match mLook Try.prog 9 (nmI N) (.string s) (nmI N).isEmpty with | some r => lookRes Try.prog 3 false r | none => none) = _
  have hl : mLook Try.prog 9 (nmI N) (.string s) (nmI N).isEmpty = some (findE (N.map fun p => (p.1, Value.int .i64 (p.2 : Nat))) s 0) := mLook_str und_str _ _ _
  rw [hl]
  by_cases h : s ∈ N.map Prod.fst
  · rw [(find_getL N s 0).1 h]
    rfl
  · rw [(find_getL N s 0).2 h, getL_none h]
    simp only [lookRes, za3]
    rfl
/-- m[s] = v. -/
theorem put_cnt {m : Mm} {b : Nat} {N : List (ByteArray × Nat)} (hb : m.hp[b]? = some ⟨false, [.ent (nmI N)]⟩) (s : ByteArray) (v : Nat) : aMapPut Try.prog m 56 (.mapp b) (.string s) (.int .i64 (v : Nat)) = some (setB m b ⟨false, [.ent (nmI (putL N s v))]⟩) := by
  have hat : aMapAt m (.mapp b) = some (b, nmI N) := by
    simp only [aMapAt, hb, blkEnt_ent]
    rfl
  unfold aMapPut
  rw [und_map, hat]
  show (mPut Try.prog 9 (nmI N) (.string s) (.int .i64 (v : Nat))).map (fun es' => ({ m with hp := m.hp.set b ⟨false, [.ent es']⟩ } : Mm)) = _
  have hl : mLook Try.prog 9 (nmI N) (.string s) false = some (findE (N.map fun p => (p.1, Value.int .i64 (p.2 : Nat))) s 0) := mLook_str und_str _ _ _
  unfold mPut
  rw [hl]
  by_cases h : s ∈ N.map Prod.fst
  · rw [(find_getL N s 0).1 h, Nat.zero_add, putL_set h]
    have hlt := posOf_lt h
    rw [List.length_map] at hlt
    generalize hk : posOf (N.map Prod.fst) s = k at *
    have hks : (N[k]).1 = s := by
      have := posOf_get h
      rw [hk, List.getElem?_map, List.getElem?_eq_getElem hlt] at this
      simpa using this
    have hg : (nmI N)[k]? = some (.string s, .int .i64 ((N[k]).2 : Nat)) := by
      simp [nmI, encE, List.getElem?_eq_getElem hlt, hks]
    have hset : (nmI N).set k (.string s, .int .i64 (v : Nat)) = nmI (N.set k (s, v)) := by
      simp [nmI, encE, List.map_set]
    simp only [hg, same_str, if_true, Option.map_some, hset]
    rfl
  · rw [(find_getL N s 0).2 h, putL_app h]
    simp only [Option.map_some]
    rw [nmI_app]
    rfl
end Go.Proofs.Ytlhlcfijpdknfaa

/-
  Chapter 2, InternLeast: what a table holds beside a count of one's own, plain.
-/
set_option linter.unusedSimpArgs false
set_option linter.unusedVariables false
namespace Go.Proofs.Ytlhlcfijpdknfaa
open Go.Vs Go.Vs.Ab Go.Vs.Hp Go.Vs.Tb
set_option maxRecDepth 100000
set_option maxHeartbeats 4000000

def totE : List Ent → Nat
  | [] => 0
  | e :: r => e.2 + totE r
theorem totE_set : ∀ (E : List Ent) (n : Nat) (hn : n < E.length) (x : Ent), totE (E.set n x) + (E[n]).2 = totE E + x.2
  | [], n, hn, x => by simp at hn
  | e :: r, 0, hn, x => by simp only [List.set_cons_zero, totE, List.getElem_cons_zero]; omega
  | e :: r, n + 1, hn, x => by
    have := totE_set r n (by simpa using hn) x
    simp only [List.set_cons_succ, totE, List.getElem_cons_succ]
    omega
theorem totE_app (E : List Ent) (x : Ent) : totE (E ++ [x]) = totE E + x.2 := by
  induction E with
  | nil => simp [totE]
  | cons e r ih => simp only [List.cons_append, totE, ih]; omega

/-- The counts N are those of the table. -/
structure Cn (E : List Ent) (N : List (ByteArray × Nat)) : Prop where
  up : ∀ (k : Nat) (s : ByteArray) (u : Nat), E[k]? = some (s, u) → s ≠ emp → 0 < u ∧ getL N s = u
  dn : ∀ s : ByteArray, 0 < getL N s → s ≠ emp ∧ ∃ (k u : Nat), E[k]? = some (s, u)
  one : ∀ (i j : Nat) (s : ByteArray) (u v : Nat), E[i]? = some (s, u) → E[j]? = some (s, v) → s ≠ emp → i = j
  zero : ∀ (k u : Nat), E[k]? = some (emp, u) → u = 0
  tot : totE E = totL N
theorem Cn.new : Cn [] [] := ⟨fun k s u h => by simp at h, fun s h => by simp [getL] at h, fun i j s u v h => by simp at h, fun k u h => by simp at h, rfl⟩
theorem Cn.put {E : List Ent} {N : List (ByteArray × Nat)} (h : Cn E N) {n u u0 : Nat} {s s0 : ByteArray} (h0 : E[n]? = some (s0, u0)) (hs : s ≠ emp) (hs0 : s0 = emp ∨ s0 = s) (hu : 0 < u) (hg : getL N s = u0) (hn : ∀ (j v : Nat), j ≠ n → E[j]? ≠ some (s, v)) : Cn (E.set n (s, u)) (putL N s u) := by
  obtain ⟨hnl, hn0⟩ := List.getElem?_eq_some_iff.1 h0
  refine ⟨fun k t v hk ht => ?_, fun t ht => ?_, fun i j t v v' hi hj ht => ?_, fun k v hk => ?_, ?_⟩
  · rcases (set_get hnl _ k _).1 hk with ⟨rfl, e⟩ | ⟨hkn, hk⟩
    · injection e with e1 e2
      subst e1 e2
      exact ⟨hu, by rw [getL_put, if_pos rfl]⟩
    · have hts : ¬ s = t := fun e => hn k v hkn (e ▸ hk)
      rw [getL_put, if_neg hts]
      exact h.up k t v hk ht
  · rw [getL_put] at ht
    by_cases hst : s = t
    · subst hst
      exact ⟨hs, n, u, (set_get hnl _ _ _).2 (Or.inl ⟨rfl, rfl⟩)⟩
    · rw [if_neg hst] at ht
      obtain ⟨h1, k, v, hk⟩ := h.dn t ht
      refine ⟨h1, k, v, (set_get hnl _ _ _).2 (Or.inr ⟨fun e => ?_, hk⟩)⟩
      subst e
      rw [h0] at hk
      injection hk with hk
      injection hk with hk _
      rcases hs0 with e | e
      · exact h1 (hk.symm.trans e)
      · exact hst (e.symm.trans hk)
  · rcases (set_get hnl _ i _).1 hi with ⟨rfl, e⟩ | ⟨hin, hi'⟩
    · injection e with e1 e2
      subst e1
      rcases (set_get hnl _ j _).1 hj with ⟨rfl, _⟩ | ⟨hjn, hj⟩
      · rfl
      · exact absurd hj (hn j _ hjn)
    · rcases (set_get hnl _ j _).1 hj with ⟨rfl, e⟩ | ⟨hjn, hj⟩
      · injection e with e1 e2
        subst e1
        exact absurd hi' (hn i _ hin)
      · exact h.one i j t v v' hi' hj ht
  · rcases (set_get hnl _ k _).1 hk with ⟨rfl, e⟩ | ⟨hkn, hk⟩
    · injection e with e1 e2
      exact absurd e1.symm hs
    · exact h.zero k v hk
  · have h1 := totE_set E n hnl (s, u)
    have h2 := tot_put N s u
    have h3 := h.tot
    rw [hn0] at h1
    simp only at h1
    omega
theorem Cn.app {E : List Ent} {N : List (ByteArray × Nat)} (h : Cn E N) {u : Nat} {s : ByteArray} (hs : s ≠ emp) (hu : 0 < u) (hg : getL N s = 0) (hn : ∀ (j v : Nat), E[j]? ≠ some (s, v)) : Cn (E ++ [(s, u)]) (putL N s u) := by
  have hap : ∀ (i : Nat) (e : Ent), (E ++ [(s, u)])[i]? = some e → E[i]? = some e ∨ (i = E.length ∧ e = (s, u)) := fun i e hi => by
    by_cases hl : i < E.length
    · rw [List.getElem?_append_left hl] at hi; exact Or.inl hi
    · have : i = E.length := by
        have := (List.getElem?_eq_some_iff.1 hi).1
        simp at this
        omega
      subst this
      rw [List.getElem?_append_right (Nat.le_refl _), Nat.sub_self] at hi
      simp at hi
      exact Or.inr ⟨rfl, hi.symm⟩
  refine ⟨fun k t v hk ht => ?_, fun t ht => ?_, fun i j t v v' hi hj ht => ?_, fun k v hk => ?_, ?_⟩
  · rcases hap k _ hk with hk | ⟨_, e⟩
    · have hts : ¬ s = t := fun e => hn k v (e ▸ hk)
      rw [getL_put, if_neg hts]
      exact h.up k t v hk ht
    · injection e with e1 e2
      subst e1 e2
      exact ⟨hu, by rw [getL_put, if_pos rfl]⟩
  · rw [getL_put] at ht
    by_cases hst : s = t
    · subst hst
      exact ⟨hs, E.length, u, by simp⟩
    · rw [if_neg hst] at ht
      obtain ⟨h1, k, v, hk⟩ := h.dn t ht
      exact ⟨h1, k, v, by rw [List.getElem?_append_left (List.getElem?_eq_some_iff.1 hk).1]; exact hk⟩
  · rcases hap i _ hi with hi' | ⟨rfl, e⟩
    · rcases hap j _ hj with hj | ⟨rfl, e⟩
      · exact h.one i j t v v' hi' hj ht
      · injection e with e1 e2
        subst e1
        exact absurd hi' (hn i _)
    · injection e with e1 e2
      subst e1
      rcases hap j _ hj with hj | ⟨rfl, _⟩
      · exact absurd hj (hn j _)
      · rfl
  · rcases hap k _ hk with hk | ⟨_, e⟩
    · exact h.zero k v hk
    · injection e with e1 e2
      exact absurd e1.symm hs
  · have h2 := tot_put N s u
    have h3 := h.tot
    rw [totE_app]
    simp only
    omega
theorem Cn.gone {E : List Ent} {N : List (ByteArray × Nat)} (h : Cn E N) {n u0 : Nat} {s : ByteArray} (h0 : E[n]? = some (s, u0)) (hs : s ≠ emp) : Cn (E.set n (emp, 0)) (putL N s 0) := by
  obtain ⟨hnl, hn0⟩ := List.getElem?_eq_some_iff.1 h0
  have hg := (h.up n s u0 h0 hs).2
  refine ⟨fun k t v hk ht => ?_, fun t ht => ?_, fun i j t v v' hi hj ht => ?_, fun k v hk => ?_, ?_⟩
  · rcases (set_get hnl _ k _).1 hk with ⟨rfl, e⟩ | ⟨hkn, hk⟩
    · injection e with e1 e2
      exact absurd e1 ht
    · have hts : ¬ s = t := fun e => hkn (by subst e; exact h.one k n s v u0 hk h0 hs)
      rw [getL_put, if_neg hts]
      exact h.up k t v hk ht
  · rw [getL_put] at ht
    by_cases hst : s = t
    · rw [if_pos hst] at ht; omega
    · rw [if_neg hst] at ht
      obtain ⟨h1, k, v, hk⟩ := h.dn t ht
      refine ⟨h1, k, v, (set_get hnl _ _ _).2 (Or.inr ⟨fun e => ?_, hk⟩)⟩
      subst e
      rw [h0] at hk
      injection hk with hk
      injection hk with hk _
      exact hst hk
  · rcases (set_get hnl _ i _).1 hi with ⟨rfl, e⟩ | ⟨hin, hi⟩
    · injection e with e1 e2
      exact absurd e1 ht
    · rcases (set_get hnl _ j _).1 hj with ⟨rfl, e⟩ | ⟨hjn, hj⟩
      · injection e with e1 e2
        exact absurd e1 ht
      · exact h.one i j t v v' hi hj ht
  · rcases (set_get hnl _ k _).1 hk with ⟨rfl, e⟩ | ⟨hkn, hk⟩
    · injection e with e1 e2
    · exact h.zero k v hk
  · have h1 := totE_set E n hnl (emp, 0)
    have h2 := tot_put N s 0
    have h3 := h.tot
    rw [hn0] at h1
    simp only at h1
    omega

theorem Cn.find0 {E : List Ent} {N : List (ByteArray × Nat)} (h : Cn E N) {s : ByteArray} : (findS E s).isSome = decide (0 < getL N s) := by
  cases hf : findS E s with
  | some n =>
    obtain ⟨hs, hn, u, hu⟩ := findS_some hf
    have := h.up n s u hu hs
    symm
    exact decide_eq_true (by omega)
  | none =>
    symm
    refine decide_eq_false fun hg => ?_
    obtain ⟨hs, k, u, hk⟩ := h.dn s hg
    exact findS_none hf hs k u hk
end Go.Proofs.Ytlhlcfijpdknfaa

/-
  Chapter 2, InternLeast: a text taken, a text dropped, beside a count of one's own, plain.
-/
set_option linter.unusedSimpArgs false
set_option linter.unusedVariables false
namespace Go.Proofs.Ytlhlcfijpdknfaa
open Go.Vs Go.Vs.Ab Go.Vs.Hp Go.Vs.Tb
set_option maxRecDepth 100000
set_option maxHeartbeats 4000000

theorem at_has {E : List Ent} {n u : Nat} {s : ByteArray} (h : E[n]? = some (s, u)) (hs : s ≠ emp) : hasS E (n : Int) = true ∧ textS E (n : Int) = s ∧ usesS E (n : Int) = u := by
  obtain ⟨hn, he⟩ := List.getElem?_eq_some_iff.1 h
  have h1 : hasS E (n : Int) = true := by
    unfold hasS
    rw [Int.toNat_natCast, h]
    simp [liveB, hs]
  refine ⟨h1, ?_, ?_⟩
  · unfold textS
    rw [h1, if_pos rfl, Int.toNat_natCast, getD_at hn, he]
  · unfold usesS
    rw [h1, if_pos rfl, Int.toNat_natCast, getD_at hn, he]
theorem liveN_all {E : List Ent} (h : ∀ j (hj : j < E.length), (E[j]).1 ≠ emp) : liveN E = E.length := by
  unfold liveN
  rw [List.filter_eq_self.2]
  intro e he
  obtain ⟨j, hj, rfl⟩ := List.mem_iff_getElem.1 he
  have := h j hj
  simp [liveB, this]
theorem Cn.take {E : List Ent} {N : List (ByteArray × Nat)} (h : Cn E N) {s : ByteArray} (hs : ¬ (s.size < 1 ∨ 255 < s.size)) (hE : E.length ≤ 1000) {mx : Nat} (hm : E.length ≤ mx) :
    ∃ n, (takeS E s).1 = (n, 0) ∧ Cn (takeS E s).2 (putL N s (getL N s + 1)) ∧ (takeS E s).2[n]? = some (s, getL N s + 1) ∧ (takeS E s).2.length ≤ max mx (liveN (takeS E s).2) := by
  have hse : s ≠ emp := fun e => hs (Or.inl ((emp_size s).1 e))
  unfold takeS
  rw [if_neg hs]
  cases hf : findS E s with
  | some n =>
    obtain ⟨_, hn, u, hu⟩ := findS_some hf
    have hg := (h.up n s u hu hse).2
    have hgd : (E.getD n (emp, 0)).2 = u := by
      rw [getD_at hn, (List.getElem?_eq_some_iff.1 hu).2]
    dsimp only
    rw [hgd, hg]
    exact ⟨n, rfl, h.put hu hse (Or.inr rfl) (Nat.succ_pos _) hg (fun j v hj hx => hj (h.one j n s v u hx hu hse)), (set_get hn _ _ _).2 (Or.inl ⟨rfl, rfl⟩), by
      show (E.set _ _).length ≤ _
      rw [List.length_set]
      exact Nat.le_trans hm (Nat.le_max_left _ _)⟩
  | none =>
    have hnone := findS_none hf hse
    have hg : getL N s = 0 := by
      rcases Nat.eq_zero_or_pos (getL N s) with h0 | h0
      · exact h0
      · obtain ⟨_, k, u, hk⟩ := h.dn s h0
        exact absurd hk (hnone k u)
    have hl : ¬ 65536 ≤ liveN E := by have := liveN_le E; omega
    simp only [if_neg hl]
    rw [hg]
    by_cases hc : leastF E = E.length
    · rw [if_pos hc]
      refine ⟨_, rfl, h.app hse Nat.one_pos hg hnone, by rw [hc]; simp, ?_⟩
      have hall := leastF_all hc
      have : liveN (E ++ [(s, 1)]) = E.length + 1 := by
        have h1 := liveN_all hall
        unfold liveN at h1 ⊢
        rw [List.filter_append, List.length_append, h1]
        simp [liveB, hse]
      rw [this, List.length_append]
      exact Nat.le_max_right _ _
    · rw [if_neg hc]
      have hlt : leastF E < E.length := by have := leastF_le E; omega
      have hz := (leastF_lt rfl hlt).1
      have hget : E[leastF E]? = some (emp, (E[leastF E]).2) := by
        rw [List.getElem?_eq_getElem hlt]
        congr 1
        exact Prod.ext hz rfl
      have hu0 := h.zero _ _ hget
      rw [hu0] at hget
      exact ⟨_, rfl, h.put hget hse (Or.inl rfl) Nat.one_pos hg (fun j v _ => hnone j v), (set_get hlt _ _ _).2 (Or.inl ⟨rfl, rfl⟩), by
        show (E.set _ _).length ≤ _
        rw [List.length_set]
        exact Nat.le_trans hm (Nat.le_max_left _ _)⟩
theorem Cn.drop {E : List Ent} {N : List (ByteArray × Nat)} (h : Cn E N) {s : ByteArray} {n : Nat} (hf : findS E s = some n) :
    (dropS E (n : Int)).1 = 0 ∧ Cn (dropS E (n : Int)).2 (putL N s (getL N s - 1)) ∧ (dropS E (n : Int)).2.length = E.length := by
  obtain ⟨hs, hn, u, hu⟩ := findS_some hf
  obtain ⟨h1, h2⟩ := h.up n s u hu hs
  obtain ⟨hh, _, _⟩ := at_has hu hs
  have hgd : E.getD n (emp, 0) = (s, u) := by rw [getD_at hn, (List.getElem?_eq_some_iff.1 hu).2]
  unfold dropS
  rw [if_pos hh, Int.toNat_natCast, hgd, h2]
  dsimp only
  by_cases hu1 : u = 1
  · rw [if_pos hu1]
    subst hu1
    exact ⟨rfl, h.gone hu hs, List.length_set⟩
  · rw [if_neg hu1]
    refine ⟨rfl, ?_, List.length_set⟩
    have hd := h.put (s := s) (u := u - 1) hu hs (Or.inr rfl) (by omega) h2 (fun j v hj hx => hj (h.one j n s v u hx hu hs))
    exact hd
theorem tot_zero {N : List (ByteArray × Nat)} (h : ∀ s ∈ N.map Prod.fst, getL N s = 0) (hnd : (N.map Prod.fst).Nodup) : totL N = 0 := by
  induction N with
  | nil => rfl
  | cons p r ih =>
    rw [List.map_cons, List.nodup_cons] at hnd
    have h0 := h p.1 (by simp)
    unfold getL at h0
    rw [if_pos rfl] at h0
    unfold totL
    rw [h0, ih (fun s hs => ?_) hnd.2]
    have := h s (by simp only [List.map_cons, List.mem_cons]; exact Or.inr hs)
    unfold getL at this
    rw [if_neg (fun e => hnd.1 (by rw [e]; exact hs))] at this
    exact this
theorem nd_put {N : List (ByteArray × Nat)} (h : (N.map Prod.fst).Nodup) (s : ByteArray) (v : Nat) : ((putL N s v).map Prod.fst).Nodup := by
  induction N with
  | nil => simp [putL]
  | cons p r ih =>
    rw [List.map_cons, List.nodup_cons] at h
    unfold putL
    by_cases h2 : p.1 = s
    · rw [if_pos h2, List.map_cons, List.nodup_cons]
      exact ⟨by rw [← h2]; exact h.1, h.2⟩
    · rw [if_neg h2, List.map_cons, List.nodup_cons]
      refine ⟨fun hm => ?_, ih h.2⟩
      rcases (keys_put r s v p.1).1 hm with e | e
      · exact h2 e
      · exact h.1 e
end Go.Proofs.Ytlhlcfijpdknfaa

/-
  Chapter 2, InternLeast: what the last two loops add up, plain.
-/
set_option linter.unusedSimpArgs false
set_option linter.unusedVariables false
namespace Go.Proofs.Ytlhlcfijpdknfaa
open Go.Vs Go.Vs.Ab Go.Vs.Hp Go.Vs.Tb
set_option maxRecDepth 100000
set_option maxHeartbeats 4000000

theorem pv_eq_bool {d : Nat} (a b : Bool) : pureVal Try.prog (Op.equalIn (d + 1) 4 (.bool a) (.bool b)) = some (a == b) := by
  unfold Op.equalIn
  rw [pv_bind, pv_under Try.underlying4]
  rfl
theorem bin_neBo (a : Bool) : pureVal Try.prog (binOp .neq 4 (.bool a) (.bool a)) = some (.bool false) := by
  have h := pv_eq_bool (d := 9999) a a
  have e : binOp .neq 4 (.bool a) (.bool a) = (do pure (Value.bool (!(← Op.equal 4 (.bool a) (.bool a))))) := rfl
  rw [e, pv_bind]
  have h' : pureVal Try.prog (Op.equal 4 (.bool a) (.bool a)) = some (a == a) := h
  rw [h']
  simp [pv_pure]

def sumX (N : List (ByteArray × Nat)) : List (Nat × ByteArray) → Nat
  | [] => 0
  | p :: r => getL N p.2 + sumX N r
theorem sumX_app (N : List (ByteArray × Nat)) (a b : List (Nat × ByteArray)) : sumX N (a ++ b) = sumX N a + sumX N b := by
  induction a with
  | nil => simp [sumX]
  | cons p r ih => simp only [List.cons_append, sumX, ih]; omega
theorem sumX_le (N : List (ByteArray × Nat)) (u : Nat) (h : ∀ s, getL N s ≤ u) : ∀ l : List (Nat × ByteArray), sumX N l ≤ l.length * u
  | [] => by simp [sumX]
  | p :: r => by
    have := sumX_le N u h r
    have := h p.2
    simp only [sumX, List.length_cons, Nat.succ_mul]
    omega
theorem sumX_take {N : List (ByteArray × Nat)} {l : List (Nat × ByteArray)} {k : Nat} (hk : k < l.length) : sumX N (l.take (k + 1)) = sumX N (l.take k) + getL N (l[k]).2 := by
  rw [List.take_succ_eq_append_getElem hk, sumX_app]
  simp [sumX]
theorem Cn.sumT {E : List Ent} {N : List (ByteArray × Nat)} (h : Cn E N) : ∀ k, k ≤ E.length → sumX N (exL (E.take k)) = totE (E.take k)
  | 0, _ => rfl
  | k + 1, hk => by
    have ih := h.sumT k (by omega)
    have hk : k < E.length := by omega
    rw [exL_take hk, sumX_app, ih, ← List.take_append_getElem hk, totE_app]
    have hg : E[k]? = some ((E[k]).1, (E[k]).2) := List.getElem?_eq_getElem hk
    cases hl : liveB E[k] with
    | true =>
      have hne : (E[k]).1 ≠ emp := by simpa [liveB] using hl
      have := (h.up k _ _ hg hne).2
      simp [sumX, this]
    | false =>
      have he : (E[k]).1 = emp := by simpa [liveB] using hl
      rw [he] at hg
      have := h.zero k _ hg
      simp [sumX, this]
theorem Cn.sum {E : List Ent} {N : List (ByteArray × Nat)} (h : Cn E N) : sumX N (exL E) = totL N := by
  have := h.sumT E.length (Nat.le_refl _)
  rw [List.take_of_length_le (Nat.le_refl _)] at this
  rw [this, h.tot]
theorem exL_at {E : List Ent} {i : Nat} (h : i < (exL E).length) : ∃ u, E[((exL E)[i]).1]? = some (((exL E)[i]).2, u) ∧ ((exL E)[i]).2 ≠ emp := by
  have hi : i < (lives E).length := by rw [← exL_len]; exact h
  have hx : (exL E)[i] = ((lives E)[i], (E.getD (lives E)[i] (emp, 0)).1) := by
    simp only [exL, List.getElem_map]
  obtain ⟨e, he, hne⟩ := mem_lives.1 (List.getElem_mem hi)
  rw [hx]
  have hd : E.getD (lives E)[i] (emp, 0) = e := by rw [List.getD_eq_getElem?_getD, he]; rfl
  rw [hd]
  exact ⟨e.2, he, hne⟩
theorem exL_lt {E : List Ent} {i : Nat} (h : i + 1 < (exL E).length) : ((exL E)[i]).1 < ((exL E)[i + 1]).1 := by
  have hi : i + 1 < (lives E).length := by rw [← exL_len]; exact h
  have hx : ∀ (j : Nat) (hj : j < (exL E).length) (hj2 : j < (lives E).length), ((exL E)[j]).1 = (lives E)[j] := fun j hj hj2 => by simp only [exL, List.getElem_map]
  rw [hx i (by omega) (by omega), hx (i + 1) h hi]
  exact List.pairwise_iff_getElem.1 (lives_sorted E) i (i + 1) (by omega) hi (by omega)

/-- What is left over when the first i texts were cleared. -/
structure Cl (T : List ByteArray) (N : List (ByteArray × Nat)) (i : Nat) : Prop where
  keys : ∀ s ∈ N.map Prod.fst, s ∈ T
  nd : (N.map Prod.fst).Nodup
  gone : ∀ (j : Nat) (hj : j < T.length), j < i → getL N T[j] = 0
theorem Cl.next {T : List ByteArray} {N : List (ByteArray × Nat)} {i : Nat} (h : Cl T N i) (hi : i < T.length) : Cl T (putL N T[i] 0) (i + 1) := by
  refine ⟨fun s hs => ?_, nd_put h.nd _ _, fun j hj hji => ?_⟩
  · rcases (keys_put _ _ _ s).1 hs with rfl | h'
    · exact List.getElem_mem hi
    · exact h.keys s h'
  · rw [getL_put]
    split
    · rfl
    · rename_i hne
      refine h.gone j hj ?_
      rcases Nat.lt_or_ge j i with hl | hl
      · exact hl
      · have : j = i := by omega
        subst this
        exact absurd rfl hne
theorem Cl.end {T : List ByteArray} {N : List (ByteArray × Nat)} (h : Cl T N T.length) : totL N = 0 := by
  refine tot_zero (fun s hs => ?_) h.nd
  obtain ⟨j, hj, rfl⟩ := List.mem_iff_getElem.1 (h.keys s hs)
  exact h.gone j hj hj
end Go.Proofs.Ytlhlcfijpdknfaa
