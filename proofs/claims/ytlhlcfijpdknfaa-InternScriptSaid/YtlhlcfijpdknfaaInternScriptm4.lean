/-
  Part 4 of the proof's own texts: general lemmas and contracts of functions, laid one behind the other.
-/
import Derived.Test.YtlhlcfijpdknfaaInternScriptm3
/-
  Chapter 2, the document's answer: Take of a text that is new.
-/
set_option linter.unusedSimpArgs false
set_option linter.unusedVariables false
namespace Go.Proofs.Ytlhlcfijpdknfaa
open Go.Vs Go.Vs.Ab Go.Vs.Hp Go.Vs.Tb
set_option maxRecDepth 100000
set_option maxHeartbeats 4000000

/-- The orders of the two appends, of the two stores. -/
def otApp : OT := .one 0 (.one 1 (.one 2 (.one 3 (.one 4 (.one 8 (.one 9 (.one 10 (.br 5 (.br 6 (.br 7 (.br 11 (.br 12 (.br 13 (.one 14 (.one 15 (.br 16 (.one 17 (.one 18 (.br 19 (.fin) (.stop)))) (.stop)))) (.stop)) (.stop)) (.br 12 (.br 11 (.br 13 (.one 14 (.one 15 (.br 16 (.one 17 (.one 18 (.br 19 (.fin) (.stop)))) (.stop)))) (.stop)) (.stop)) (.stop))) (.br 11 (.br 7 (.br 12 (.br 13 (.one 14 (.one 15 (.br 16 (.one 17 (.one 18 (.br 19 (.fin) (.stop)))) (.stop)))) (.stop)) (.stop)) (.br 12 (.br 7 (.br 13 (.one 14 (.one 15 (.br 16 (.one 17 (.one 18 (.br 19 (.fin) (.stop)))) (.stop)))) (.stop)) (.stop)) (.stop))) (.br 12 (.br 7 (.br 11 (.br 13 (.one 14 (.one 15 (.br 16 (.one 17 (.one 18 (.br 19 (.fin) (.stop)))) (.stop)))) (.stop)) (.stop)) (.br 11 (.br 7 (.br 13 (.one 14 (.one 15 (.br 16 (.one 17 (.one 18 (.br 19 (.fin) (.stop)))) (.stop)))) (.stop)) (.stop)) (.stop))) (.stop)))) (.br 11 (.br 6 (.br 7 (.br 12 (.br 13 (.one 14 (.one 15 (.br 16 (.one 17 (.one 18 (.br 19 (.fin) (.stop)))) (.stop)))) (.stop)) (.stop)) (.br 12 (.br 7 (.br 13 (.one 14 (.one 15 (.br 16 (.one 17 (.one 18 (.br 19 (.fin) (.stop)))) (.stop)))) (.stop)) (.stop)) (.stop))) (.br 12 (.br 6 (.br 7 (.br 13 (.one 14 (.one 15 (.br 16 (.one 17 (.one 18 (.br 19 (.fin) (.stop)))) (.stop)))) (.stop)) (.stop)) (.stop)) (.stop))) (.br 12 (.br 6 (.br 7 (.br 11 (.br 13 (.one 14 (.one 15 (.br 16 (.one 17 (.one 18 (.br 19 (.fin) (.stop)))) (.stop)))) (.stop)) (.stop)) (.br 11 (.br 7 (.br 13 (.one 14 (.one 15 (.br 16 (.one 17 (.one 18 (.br 19 (.fin) (.stop)))) (.stop)))) (.stop)) (.stop)) (.stop))) (.br 11 (.br 6 (.br 7 (.br 13 (.one 14 (.one 15 (.br 16 (.one 17 (.one 18 (.br 19 (.fin) (.stop)))) (.stop)))) (.stop)) (.stop)) (.stop)) (.stop))) (.stop)))) (.br 6 (.br 5 (.br 7 (.br 11 (.br 12 (.br 13 (.one 14 (.one 15 (.br 16 (.one 17 (.one 18 (.br 19 (.fin) (.stop)))) (.stop)))) (.stop)) (.stop)) (.br 12 (.br 11 (.br 13 (.one 14 (.one 15 (.br 16 (.one 17 (.one 18 (.br 19 (.fin) (.stop)))) (.stop)))) (.stop)) (.stop)) (.stop))) (.br 11 (.br 7 (.br 12 (.br 13 (.one 14 (.one 15 (.br 16 (.one 17 (.one 18 (.br 19 (.fin) (.stop)))) (.stop)))) (.stop)) (.stop)) (.br 12 (.br 7 (.br 13 (.one 14 (.one 15 (.br 16 (.one 17 (.one 18 (.br 19 (.fin) (.stop)))) (.stop)))) (.stop)) (.stop)) (.stop))) (.br 12 (.br 7 (.br 11 (.br 13 (.one 14 (.one 15 (.br 16 (.one 17 (.one 18 (.br 19 (.fin) (.stop)))) (.stop)))) (.stop)) (.stop)) (.br 11 (.br 7 (.br 13 (.one 14 (.one 15 (.br 16 (.one 17 (.one 18 (.br 19 (.fin) (.stop)))) (.stop)))) (.stop)) (.stop)) (.stop))) (.stop)))) (.br 11 (.br 5 (.br 7 (.br 12 (.br 13 (.one 14 (.one 15 (.br 16 (.one 17 (.one 18 (.br 19 (.fin) (.stop)))) (.stop)))) (.stop)) (.stop)) (.br 12 (.br 7 (.br 13 (.one 14 (.one 15 (.br 16 (.one 17 (.one 18 (.br 19 (.fin) (.stop)))) (.stop)))) (.stop)) (.stop)) (.stop))) (.br 12 (.br 5 (.br 7 (.br 13 (.one 14 (.one 15 (.br 16 (.one 17 (.one 18 (.br 19 (.fin) (.stop)))) (.stop)))) (.stop)) (.stop)) (.stop)) (.stop))) (.br 12 (.br 5 (.br 7 (.br 11 (.br 13 (.one 14 (.one 15 (.br 16 (.one 17 (.one 18 (.br 19 (.fin) (.stop)))) (.stop)))) (.stop)) (.stop)) (.br 11 (.br 7 (.br 13 (.one 14 (.one 15 (.br 16 (.one 17 (.one 18 (.br 19 (.fin) (.stop)))) (.stop)))) (.stop)) (.stop)) (.stop))) (.br 11 (.br 5 (.br 7 (.br 13 (.one 14 (.one 15 (.br 16 (.one 17 (.one 18 (.br 19 (.fin) (.stop)))) (.stop)))) (.stop)) (.stop)) (.stop)) (.stop))) (.stop)))) (.br 11 (.br 5 (.br 6 (.br 7 (.br 12 (.br 13 (.one 14 (.one 15 (.br 16 (.one 17 (.one 18 (.br 19 (.fin) (.stop)))) (.stop)))) (.stop)) (.stop)) (.br 12 (.br 7 (.br 13 (.one 14 (.one 15 (.br 16 (.one 17 (.one 18 (.br 19 (.fin) (.stop)))) (.stop)))) (.stop)) (.stop)) (.stop))) (.br 12 (.br 6 (.br 7 (.br 13 (.one 14 (.one 15 (.br 16 (.one 17 (.one 18 (.br 19 (.fin) (.stop)))) (.stop)))) (.stop)) (.stop)) (.stop)) (.stop))) (.br 6 (.br 5 (.br 7 (.br 12 (.br 13 (.one 14 (.one 15 (.br 16 (.one 17 (.one 18 (.br 19 (.fin) (.stop)))) (.stop)))) (.stop)) (.stop)) (.br 12 (.br 7 (.br 13 (.one 14 (.one 15 (.br 16 (.one 17 (.one 18 (.br 19 (.fin) (.stop)))) (.stop)))) (.stop)) (.stop)) (.stop))) (.br 12 (.br 5 (.br 7 (.br 13 (.one 14 (.one 15 (.br 16 (.one 17 (.one 18 (.br 19 (.fin) (.stop)))) (.stop)))) (.stop)) (.stop)) (.stop)) (.stop))) (.br 12 (.br 5 (.br 6 (.br 7 (.br 13 (.one 14 (.one 15 (.br 16 (.one 17 (.one 18 (.br 19 (.fin) (.stop)))) (.stop)))) (.stop)) (.stop)) (.stop)) (.br 6 (.br 5 (.br 7 (.br 13 (.one 14 (.one 15 (.br 16 (.one 17 (.one 18 (.br 19 (.fin) (.stop)))) (.stop)))) (.stop)) (.stop)) (.stop)) (.stop))) (.stop)))) (.br 12 (.br 5 (.br 6 (.br 7 (.br 11 (.br 13 (.one 14 (.one 15 (.br 16 (.one 17 (.one 18 (.br 19 (.fin) (.stop)))) (.stop)))) (.stop)) (.stop)) (.br 11 (.br 7 (.br 13 (.one 14 (.one 15 (.br 16 (.one 17 (.one 18 (.br 19 (.fin) (.stop)))) (.stop)))) (.stop)) (.stop)) (.stop))) (.br 11 (.br 6 (.br 7 (.br 13 (.one 14 (.one 15 (.br 16 (.one 17 (.one 18 (.br 19 (.fin) (.stop)))) (.stop)))) (.stop)) (.stop)) (.stop)) (.stop))) (.br 6 (.br 5 (.br 7 (.br 11 (.br 13 (.one 14 (.one 15 (.br 16 (.one 17 (.one 18 (.br 19 (.fin) (.stop)))) (.stop)))) (.stop)) (.stop)) (.br 11 (.br 7 (.br 13 (.one 14 (.one 15 (.br 16 (.one 17 (.one 18 (.br 19 (.fin) (.stop)))) (.stop)))) (.stop)) (.stop)) (.stop))) (.br 11 (.br 5 (.br 7 (.br 13 (.one 14 (.one 15 (.br 16 (.one 17 (.one 18 (.br 19 (.fin) (.stop)))) (.stop)))) (.stop)) (.stop)) (.stop)) (.stop))) (.br 11 (.br 5 (.br 6 (.br 7 (.br 13 (.one 14 (.one 15 (.br 16 (.one 17 (.one 18 (.br 19 (.fin) (.stop)))) (.stop)))) (.stop)) (.stop)) (.stop)) (.br 6 (.br 5 (.br 7 (.br 13 (.one 14 (.one 15 (.br 16 (.one 17 (.one 18 (.br 19 (.fin) (.stop)))) (.stop)))) (.stop)) (.stop)) (.stop)) (.stop))) (.stop)))) (.stop))))))))))))
def otSet : OT := .one 0 (.one 1 (.one 2 (.one 4 (.one 5 (.one 6 (.one 7 (.one 9 (.one 10 (.br 3 (.br 8 (.one 11 (.br 12 (.one 13 (.br 14 (.fin) (.stop))) (.stop))) (.stop)) (.br 8 (.br 3 (.one 11 (.br 12 (.one 13 (.br 14 (.fin) (.stop))) (.stop))) (.stop)) (.stop)))))))))))

theorem rtake_new {m : Mm} {b : Nat} {E : List Ent} {S : List Nat} (h : RefM m b E S) (hW : Wf m) (hM : E.length ≤ 1000) {s : ByteArray} (hs : ¬ (s.size < 1 ∨ 255 < s.size)) (hf : findS E s = none) :
    ∃ m' S', GivesW Try.prog 20 [.ptr b 0, sA s] m (.tup [iA (leastF E : Nat), iA 0]) m' ∧ RefM m' b (if leastF E = E.length then E ++ [(s, 1)] else E.set (leastF E) (s, 1)) S' ∧ Kp m m' S S' := by
  have hlt := h.lt
  have cf := rfind_gives h hW hM s
  rw [hf] at cf
  have cf : GivesW Try.prog 23 [.ptr b 0, sA s] m (.tup [iA ((0 : Nat) : Int), bA false]) m := cf
  have cl := rlen_gives h hW hM
  have hlv : liveN E ≤ 1000 := Nat.le_trans (liveN_le E) hM
  obtain ⟨c1, c2, s1, s2, hb, hT, hR, hS, hnd⟩ := h
  have h1 : decide ((s.size : Int) < 1) = false := decide_eq_false (by omega)
  have h2 : decide ((255 : Int) < (s.size : Nat)) = false := decide_eq_false (by omega)
  have h3 : decide ((65536 : Int) ≤ (liveN E : Nat)) = false := decide_eq_false (by omega)
  have p1 := hT.plain1
  have p2 := hR.plain1
  have z0 : ((0 : Nat) : Int) = 0 := rfl
  subst hS
  have hd := ref_disj hnd
  have hbl := (List.getElem?_eq_some_iff.1 hb).1
  generalize hn : leastF E = n
  have hnl : n ≤ E.length := by rw [← hn]; exact leastF_le E
  by_cases hc : n = E.length
  · rw [if_pos hc]
    subst hc
    obtain ⟨m1, ha1, hn1, hl1, k1⟩ := row_app (e := 9) st_hk (by decide) Try.underlying54 info_str hT hW (⟨#[]⟩ : ByteArray) (ex := true) (by rw [txE_len]; omega) (by rw [txE_len]; unfold maxLen; omega)
    have hR1 : RowAt m1 inC 1 c2 (usE E) s2 := hR.keep k1 (fun i hi h => hd.2.2 i h hi)
    obtain ⟨m2, ha2, hn2, hl2, k2⟩ := row_app (e := 3) in_hk (by decide) Try.underlying55 info_int hR1 k1.wf (0 : Int) (ex := true) (by rw [usE_len]; omega) (by rw [usE_len]; unfold maxLen; omega)
    generalize hh1 : m.hp.length = h1' at *
    generalize hh2 : m1.hp.length = h2' at *
    have hbA : m1.hp[b]? = some ⟨false, [c1, c2]⟩ := k1.old b _ hd.1 hb
    have hbB : m2.hp[b]? = some ⟨false, [c1, c2]⟩ := k2.old b _ hd.2.1 hbA
    have hbl2 := (List.getElem?_eq_some_iff.1 hbB).1
    have hnA : m2.hp[h1']? = some ⟨false, blC stC (txE E ++ [⟨#[]⟩])⟩ := k2.old h1' _ (fun hin => by
      rcases hR with ⟨_, _, q⟩ | ⟨_, _, _, q, q2, _⟩
      · rw [q] at hin; cases hin
      · rw [q] at hin
        have := (List.getElem?_eq_some_iff.1 q2).1
        simp at hin
        omega) hn1
    have hlT : (txE E).length = E.length := txE_len E
    have hlU : (usE E).length = E.length := usE_len E
    rw [hlT] at ha1
    rw [hlU] at ha2
    have ha1' : aAppendL Try.prog m 54 c1 (.c (.sl true 1 [.v (.string ⟨#[]⟩)])) = some (.lsl h1' 0 (E.length + 1) 1, m1) := ha1
    have ha2' : aAppendL Try.prog m1 55 c2 (.c (.sl true 1 [.v (.int .i64 0)])) = some (.lsl h2' 0 (E.length + 1) 1, m2) := ha2
    have hne1 : h1' ≠ b := by omega
    have hne2 : h2' ≠ b := by omega
    have hne12 : h1' ≠ h2' := by omega
    have hl1' := (List.getElem?_eq_some_iff.1 hnA).1
    have hl2' := (List.getElem?_eq_some_iff.1 hn2).1
    have gX : ∀ x, (setB m2 b x).hp[b]? = some x := fun x => setB_self hbl2 x
    have gXX : ∀ x y, (setB (setB m2 b x) b y).hp[b]? = some y := fun x y => setB_self (by rw [setB_len]; exact hbl2) y
    have gX1 : ∀ x y, (setB (setB m2 b x) b y).hp[h1']? = some ⟨false, blC stC (txE E ++ [⟨#[]⟩])⟩ := fun x y => by rw [setB_ne (Ne.symm hne1), setB_ne (Ne.symm hne1)]; exact hnA
    have gX2 : ∀ x y, (setB (setB m2 b x) b y).hp[h2']? = some ⟨false, blC inC (usE E ++ [0])⟩ := fun x y => by rw [setB_ne (Ne.symm hne2), setB_ne (Ne.symm hne2)]; exact hn2
    have gX2' : ∀ x y z, (setB (setB (setB m2 b x) b y) h1' z).hp[h2']? = some ⟨false, blC inC (usE E ++ [0])⟩ := fun x y z => by rw [setB_ne hne12]; exact gX2 x y
    have gXb' : ∀ x y z, (setB (setB (setB m2 b x) b y) h1' z).hp[b]? = some y := fun x y z => by rw [setB_ne hne1]; exact gXX x y
    have i1 := st_idx (b := h1') (n := E.length + 1) (i := E.length) (by omega)
    have i2 := in_idx Try.underlying55 (b := h2') (n := E.length + 1) (i := E.length) (by omega)
    have f1 := st_fit (L := txE E ++ [(⟨#[]⟩ : ByteArray)]) (i := E.length) (by simp [txE_len])
    have f2 := in_fit (l := usE E ++ [0]) (i := E.length) (by simp [usE_len])
    have e1 := st_set (L := txE E ++ [(⟨#[]⟩ : ByteArray)]) (i := E.length) (by simp [txE_len]) s
    have e2 := in_set (l := usE E ++ [0]) (i := E.length) (by simp [usE_len]) 1
    have e1' : (txE E ++ [(⟨#[]⟩ : ByteArray)]).set E.length s = txE E ++ [s] := by rw [← hlT]; simp
    have e2' : (usE E ++ [0]).set E.length 1 = usE E ++ [1] := by rw [← hlU]; simp
    rw [e1'] at e1
    rw [e2'] at e2
    have k0 : Kp m m2 (b :: (s1 ++ s2)) (b :: ([h1'] ++ [h2'])) := (k1.mono (S2 := b :: (s1 ++ s2)) (S2' := b :: (h1' :: s2)) (fun i hi => by simp [hi]) (fun i hi => by
      simp only [List.mem_cons, List.mem_append, List.not_mem_nil, or_false] at hi ⊢
      rcases hi with hi | hi | hi
      · exact Or.inr (Or.inl hi)
      · exact Or.inl hi
      · exact Or.inr (Or.inr (Or.inr hi)))).trans (k2.mono (fun i hi => by simp [hi]) (fun i hi => by
      simp only [List.mem_cons, List.mem_append, List.not_mem_nil, or_false] at hi ⊢
      rcases hi with hi | hi | hi
      · exact Or.inr (Or.inl hi)
      · exact Or.inr (Or.inr (Or.inl hi))
      · exact Or.inl hi))
    have w2 := k2.wf
    have lowc2 : low m2.hp.length m2.hw.length c2 = true := low_mono (by omega) (Nat.le_refl _) (hR1.low m2.hw.length)
    have kF := (((k0.put (i := b) (nb := ⟨false, [.lsl h1' 0 (E.length + 1) 1, c2]⟩) (by simp) (by simp only [lows, low, Bool.and_true, Bool.and_eq_true, Nat.blt_eq]; exact And.intro hl1' lowc2)).put (i := b) (nb := ⟨false, [.lsl h1' 0 (E.length + 1) 1, .lsl h2' 0 (E.length + 1) 1]⟩) (by simp) (by simp only [lows, low, Bool.and_true, Bool.and_eq_true, Nat.blt_eq, setB_len]; exact And.intro hl1' hl2')).put (i := h1') (nb := ⟨false, blC stC (txE E ++ [s])⟩) (by simp) lows_blC).put (i := h2') (nb := ⟨false, blC inC (usE E ++ [1])⟩) (by simp) lows_blC
    refine ⟨_, _, ?_, ?_, kF⟩
    · refine givesW_of' Try.func20 rfl (by kernel_rfl) Try.ntmps20 rfl rfl fun Q hQ => ?_
      repeat (first
          | refine tr_seq_k fun _ _ => ?_
          | (refine tr_region ?_; simp only [go_sem, List.getElem?_toArray, str_beq, reduceCtorEq, Nat.reduceEqDiff, Nat.reduceLT, Nat.reduceLeDiff, Nat.reduceAdd, Nat.reduceMul, Nat.reduceSub, Nat.reduceBEq, ↓reduceIte, bne_self_eq_false, Bool.and_false, Bool.false_and, Bool.true_or, Bool.false_or, h1, h2])
          | refine k_of (by assumption) ?_
          | refine tr_block ?_
          | refine tr_scope ?_
          | (refine tr_skip ?_; try simp only [ex_seq, ex_block])
          | (refine tr_label ?_; try simp only [ex_seq, ex_block])
          | (refine tr_exit ?_; try simp only [ex_seq_exit, ex_block_exit, Nat.reduceEqDiff, if_true, if_false, ex_seq, ex_block, reduceCtorEq, ↓reduceIte])
          | (refine tr_ret ?_; try simp only [ex_seq_ret, ex_block_ret]))
      refine tr_cond rfl (fun ht => ?_) (fun hf => ?_)
      · cases ht
      · repeat (first
            | refine tr_seq_k fun _ _ => ?_
            | (refine tr_region ?_; simp only [go_sem, List.getElem?_toArray, str_beq, reduceCtorEq, Nat.reduceEqDiff, Nat.reduceLT, Nat.reduceLeDiff, Nat.reduceAdd, Nat.reduceMul, Nat.reduceSub, Nat.reduceBEq, ↓reduceIte, bne_self_eq_false, Bool.and_false, Bool.false_and, Bool.true_or, Bool.false_or])
            | (refine call_givesW (cf) ?_; (try dsimp only); (try simp only [go_sem, List.getElem?_toArray, str_beq, reduceCtorEq, Nat.reduceEqDiff, Nat.reduceLT, Nat.reduceLeDiff, Nat.reduceAdd, Nat.reduceMul, Nat.reduceSub, Nat.reduceBEq, ↓reduceIte, bne_self_eq_false, Bool.and_false, Bool.false_and, Bool.true_or, Bool.false_or]))
            | refine k_of (by assumption) ?_
            | refine tr_block ?_
            | refine tr_scope ?_
            | (refine tr_skip ?_; try simp only [ex_seq, ex_block])
            | (refine tr_label ?_; try simp only [ex_seq, ex_block])
            | (refine tr_exit ?_; try simp only [ex_seq_exit, ex_block_exit, Nat.reduceEqDiff, if_true, if_false, ex_seq, ex_block, reduceCtorEq, ↓reduceIte])
            | (refine tr_ret ?_; try simp only [ex_seq_ret, ex_block_ret]))
        refine tr_cond rfl (fun ht => ?_) (fun hf => ?_)
        · cases ht
        · repeat (first
              | refine tr_seq_k fun _ _ => ?_
              | (refine tr_region ?_; simp only [go_sem, List.getElem?_toArray, str_beq, reduceCtorEq, Nat.reduceEqDiff, Nat.reduceLT, Nat.reduceLeDiff, Nat.reduceAdd, Nat.reduceMul, Nat.reduceSub, Nat.reduceBEq, ↓reduceIte, bne_self_eq_false, Bool.and_false, Bool.false_and, Bool.true_or, Bool.false_or, h3])
              | (refine call_givesW (cl) ?_; (try dsimp only); (try simp only [go_sem, List.getElem?_toArray, str_beq, reduceCtorEq, Nat.reduceEqDiff, Nat.reduceLT, Nat.reduceLeDiff, Nat.reduceAdd, Nat.reduceMul, Nat.reduceSub, Nat.reduceBEq, ↓reduceIte, bne_self_eq_false, Bool.and_false, Bool.false_and, Bool.true_or, Bool.false_or, h3]))
              | refine k_of (by assumption) ?_
              | refine tr_block ?_
              | refine tr_scope ?_
              | (refine tr_skip ?_; try simp only [ex_seq, ex_block])
              | (refine tr_label ?_; try simp only [ex_seq, ex_block])
              | (refine tr_exit ?_; try simp only [ex_seq_exit, ex_block_exit, Nat.reduceEqDiff, if_true, if_false, ex_seq, ex_block, reduceCtorEq, ↓reduceIte])
              | (refine tr_ret ?_; try simp only [ex_seq_ret, ex_block_ret]))
          refine tr_cond rfl (fun ht => ?_) (fun hf => ?_)
          · cases ht
          · repeat (first
                | refine tr_seq_k fun _ _ => ?_
                | (refine tr_region ?_; simp only [go_sem, List.getElem?_toArray, str_beq, reduceCtorEq, Nat.reduceEqDiff, Nat.reduceLT, Nat.reduceLeDiff, Nat.reduceAdd, Nat.reduceMul, Nat.reduceSub, Nat.reduceBEq, ↓reduceIte, bne_self_eq_false, Bool.and_false, Bool.false_and, Bool.true_or, Bool.false_or])
                | refine k_of (by assumption) ?_
                | refine tr_block ?_
                | refine tr_scope ?_
                | (refine tr_skip ?_; try simp only [ex_seq, ex_block])
                | (refine tr_label ?_; try simp only [ex_seq, ex_block])
                | (refine tr_exit ?_; try simp only [ex_seq_exit, ex_block_exit, Nat.reduceEqDiff, if_true, if_false, ex_seq, ex_block, reduceCtorEq, ↓reduceIte])
                | (refine tr_ret ?_; try simp only [ex_seq_ret, ex_block_ret]))
            refine tr_loop_k (σ := Nat) (fun k => [(0, .ptr b 0), (1, sA s), (6, iA k)]) (fun _ => m) (fun k => k ≤ E.length) (fun k => E.length - k) 0 (Nat.zero_le _) ⟨rfl, rfl, rfl, trivial⟩ rfl ?_
            rintro k hk K hK
            by_cases hkl : k < E.length
            · obtain ⟨h', L', rfl, rfl, hL', hEL', hkL', hg'⟩ := row_getG hT (k := k) (by rw [txE_len]; exact hkl)
              have d1 : decide ((k : Int) < (((txE E).length : Nat) : Int)) = true := decide_eq_true (by omega)
              have i1 := st_idx (b := h') (n := (txE E).length) (i := k) (by omega)
              have g1 := st_get hkL'
              have hge : (E[k]).1 = L'[k] := by rw [hg', txE_get]
              have ws := wrap_succ (show k ≤ 1000000000 by omega)
              have d2 : decide (L'[k] = ⟨#[]⟩) = false := decide_eq_false (by
                rw [← hge]
                exact leastF_all (by omega) k hkl)
              repeat (first
                  | refine tr_seq_k fun _ _ => ?_
                  | (refine tr_region ?_; simp only [go_sem, List.getElem?_toArray, str_beq, reduceCtorEq, Nat.reduceEqDiff, Nat.reduceLT, Nat.reduceLeDiff, Nat.reduceAdd, Nat.reduceMul, Nat.reduceSub, Nat.reduceBEq, ↓reduceIte, bne_self_eq_false, Bool.and_false, Bool.false_and, Bool.true_or, Bool.false_or, hb, d1, hL', i1, g1, d2])
                  | refine k_of (by assumption) ?_
                  | refine tr_block ?_
                  | refine tr_scope ?_
                  | (refine tr_skip ?_; try simp only [ex_seq, ex_block])
                  | (refine tr_label ?_; try simp only [ex_seq, ex_block])
                  | (refine tr_exit ?_; try simp only [ex_seq_exit, ex_block_exit, Nat.reduceEqDiff, if_true, if_false, ex_seq, ex_block, reduceCtorEq, ↓reduceIte])
                  | (refine tr_ret ?_; try simp only [ex_seq_ret, ex_block_ret]))
              refine tr_cond rfl (fun ht => ?_) (fun hf => ?_)
              · repeat (first
                    | refine tr_seq_k fun _ _ => ?_
                    | (refine tr_region ?_; simp only [go_sem, List.getElem?_toArray, str_beq, reduceCtorEq, Nat.reduceEqDiff, Nat.reduceLT, Nat.reduceLeDiff, Nat.reduceAdd, Nat.reduceMul, Nat.reduceSub, Nat.reduceBEq, ↓reduceIte, bne_self_eq_false, Bool.and_false, Bool.false_and, Bool.true_or, Bool.false_or, ws])
                    | refine k_of (by assumption) ?_
                    | refine tr_block ?_
                    | refine tr_scope ?_
                    | (refine tr_skip ?_; try simp only [ex_seq, ex_block])
                    | (refine tr_label ?_; try simp only [ex_seq, ex_block])
                    | (refine tr_exit ?_; try simp only [ex_seq_exit, ex_block_exit, Nat.reduceEqDiff, if_true, if_false, ex_seq, ex_block, reduceCtorEq, ↓reduceIte])
                    | (refine tr_ret ?_; try simp only [ex_seq_ret, ex_block_ret]))
                exact hK (k + 1) _ _ (by omega) ⟨⟨rfl, rfl, rfl, trivial⟩, Keep.refl _, by simp only [lowF, low, Bool.and_true, Bool.true_and, Nat.blt_eq]; omega, hW, Nat.le_refl _, Nat.le_refl _⟩ (by omega)
              · cases hf
            · obtain rfl : k = E.length := by omega
              have d1 : decide (((E.length : Nat) : Int) < (((txE E).length : Nat) : Int)) = false := decide_eq_false (by omega)
              have nd : (((E.length : Nat) : Int) == (((txE E).length : Nat) : Int)) = true := by rw [beq_iff_eq]; omega
              rcases slV_row hT with ⟨cs, hv, hv2⟩ | ⟨b', hv, hv2⟩
              · repeat (first
                    | refine tr_seq_k fun _ _ => ?_
                    | (refine tr_region ?_; simp only [go_sem, List.getElem?_toArray, str_beq, reduceCtorEq, Nat.reduceEqDiff, Nat.reduceLT, Nat.reduceLeDiff, Nat.reduceAdd, Nat.reduceMul, Nat.reduceSub, Nat.reduceBEq, ↓reduceIte, bne_self_eq_false, Bool.and_false, Bool.false_and, Bool.true_or, Bool.false_or, hb, d1, p1, hv, hv2])
                    | refine k_of (by assumption) ?_
                    | refine tr_block ?_
                    | refine tr_scope ?_
                    | (refine tr_skip ?_; try simp only [ex_seq, ex_block])
                    | (refine tr_label ?_; try simp only [ex_seq, ex_block])
                    | (refine tr_exit ?_; try simp only [ex_seq_exit, ex_block_exit, Nat.reduceEqDiff, if_true, if_false, ex_seq, ex_block, reduceCtorEq, ↓reduceIte])
                    | (refine tr_ret ?_; try simp only [ex_seq_ret, ex_block_ret]))
                refine tr_cond rfl (fun ht => ?_) (fun hf => ?_)
                · cases ht
                · repeat (first
                      | refine tr_seq_k fun _ _ => ?_
                      | (refine tr_region ?_; simp only [go_sem, List.getElem?_toArray, str_beq, reduceCtorEq, Nat.reduceEqDiff, Nat.reduceLT, Nat.reduceLeDiff, Nat.reduceAdd, Nat.reduceMul, Nat.reduceSub, Nat.reduceBEq, ↓reduceIte, bne_self_eq_false, Bool.and_false, Bool.false_and, Bool.true_or, Bool.false_or, hb, p1, hv, hv2, nd])
                      | refine k_of (by assumption) ?_
                      | refine tr_block ?_
                      | refine tr_scope ?_
                      | (refine tr_skip ?_; try simp only [ex_seq, ex_block])
                      | (refine tr_label ?_; try simp only [ex_seq, ex_block])
                      | (refine tr_exit ?_; try simp only [ex_seq_exit, ex_block_exit, Nat.reduceEqDiff, if_true, if_false, ex_seq, ex_block, reduceCtorEq, ↓reduceIte])
                      | (refine tr_ret ?_; try simp only [ex_seq_ret, ex_block_ret]))
                  refine tr_cond rfl (fun ht => ?_) (fun hf => ?_)
                  · repeat (first
                        | refine tr_seq_k fun _ _ => ?_
                        | (refine tr_region ?_; simp only [go_sem, List.getElem?_toArray, str_beq, reduceCtorEq, Nat.reduceEqDiff, Nat.reduceLT, Nat.reduceLeDiff, Nat.reduceAdd, Nat.reduceMul, Nat.reduceSub, Nat.reduceBEq, ↓reduceIte, bne_self_eq_false, Bool.and_false, Bool.false_and, Bool.true_or, Bool.false_or])
                        | refine k_of (by assumption) ?_
                        | refine tr_block ?_
                        | refine tr_scope ?_
                        | (refine tr_skip ?_; try simp only [ex_seq, ex_block])
                        | (refine tr_label ?_; try simp only [ex_seq, ex_block])
                        | (refine tr_exit ?_; try simp only [ex_seq_exit, ex_block_exit, Nat.reduceEqDiff, if_true, if_false, ex_seq, ex_block, reduceCtorEq, ↓reduceIte])
                        | (refine tr_ret ?_; try simp only [ex_seq_ret, ex_block_ret]))
                    refine tr_sub (fr' := [(0, .ptr b 0), (1, sA s), (6, iA E.length)]) ⟨rfl, rfl, rfl, trivial⟩ ?_
                    refine tr_drawX (id := 13) follows otApp (by kernel_rfl) [(0, .ptr b 0), (1, sA s), (6, iA E.length)] (setB (setB m2 b ⟨false, [.lsl h1' 0 (E.length + 1) 1, c2]⟩) b ⟨false, [.lsl h1' 0 (E.length + 1) 1, .lsl h2' 0 (E.length + 1) 1]⟩) ?_ ?_
                    · unfold otApp
                      simp only [go_sem, List.getElem?_toArray, str_beq, reduceCtorEq, Nat.reduceEqDiff, Nat.reduceLT, Nat.reduceLeDiff, Nat.reduceAdd, Nat.reduceMul, Nat.reduceSub, Nat.reduceBEq, ↓reduceIte, bne_self_eq_false, Bool.and_false, Bool.false_and, Bool.true_or, Bool.false_or, hb, p1, p2, ha1', ha2', hbA, hbB, setB_eq, gX]
                    · repeat (first
                          | refine tr_seq_k fun _ _ => ?_
                          | (refine tr_region ?_; simp only [go_sem, List.getElem?_toArray, str_beq, reduceCtorEq, Nat.reduceEqDiff, Nat.reduceLT, Nat.reduceLeDiff, Nat.reduceAdd, Nat.reduceMul, Nat.reduceSub, Nat.reduceBEq, ↓reduceIte, bne_self_eq_false, Bool.and_false, Bool.false_and, Bool.true_or, Bool.false_or])
                          | refine k_of (by assumption) ?_
                          | refine tr_block ?_
                          | refine tr_scope ?_
                          | (refine tr_skip ?_; try simp only [ex_seq, ex_block])
                          | (refine tr_label ?_; try simp only [ex_seq, ex_block])
                          | (refine tr_exit ?_; try simp only [ex_seq_exit, ex_block_exit, Nat.reduceEqDiff, if_true, if_false, ex_seq, ex_block, reduceCtorEq, ↓reduceIte])
                          | (refine tr_ret ?_; try simp only [ex_seq_ret, ex_block_ret]))
                      refine tr_sub (fr' := [(0, .ptr b 0), (1, sA s), (6, iA E.length)]) ⟨rfl, rfl, rfl, trivial⟩ ?_
                      refine tr_drawX (id := 14) follows otSet (by kernel_rfl) [(0, .ptr b 0), (1, sA s), (6, iA E.length)] (setB (setB (setB (setB m2 b ⟨false, [.lsl h1' 0 (E.length + 1) 1, c2]⟩) b ⟨false, [.lsl h1' 0 (E.length + 1) 1, .lsl h2' 0 (E.length + 1) 1]⟩) h1' ⟨false, blC stC (txE E ++ [s])⟩) h2' ⟨false, blC inC (usE E ++ [1])⟩) ?_ ?_
                      · unfold otSet
                        simp only [go_sem, List.getElem?_toArray, str_beq, reduceCtorEq, Nat.reduceEqDiff, Nat.reduceLT, Nat.reduceLeDiff, Nat.reduceAdd, Nat.reduceMul, Nat.reduceSub, Nat.reduceBEq, ↓reduceIte, bne_self_eq_false, Bool.and_false, Bool.false_and, Bool.true_or, Bool.false_or, gXX, gX1, gX2, gX2', gXb', i1, i2, f1, f2, e1, e2, setB_eq]
                      · repeat (first
                            | refine tr_seq_k fun _ _ => ?_
                            | (refine tr_region ?_; simp only [go_sem, List.getElem?_toArray, str_beq, reduceCtorEq, Nat.reduceEqDiff, Nat.reduceLT, Nat.reduceLeDiff, Nat.reduceAdd, Nat.reduceMul, Nat.reduceSub, Nat.reduceBEq, ↓reduceIte, bne_self_eq_false, Bool.and_false, Bool.false_and, Bool.true_or, Bool.false_or])
                            | refine k_of (by assumption) ?_
                            | refine tr_block ?_
                            | refine tr_scope ?_
                            | (refine tr_skip ?_; try simp only [ex_seq, ex_block])
                            | (refine tr_label ?_; try simp only [ex_seq, ex_block])
                            | (refine tr_exit ?_; try simp only [ex_seq_exit, ex_block_exit, Nat.reduceEqDiff, if_true, if_false, ex_seq, ex_block, reduceCtorEq, ↓reduceIte])
                            | (refine tr_ret ?_; try simp only [ex_seq_ret, ex_block_ret]))
                        refine (hQ _ _ [iA (E.length : Nat), iA 0] ?_ rfl rfl).2 <;> simp only [go_sem, List.getElem?_toArray, str_beq, reduceCtorEq, Nat.reduceEqDiff, Nat.reduceLT, Nat.reduceLeDiff, Nat.reduceAdd, Nat.reduceMul, Nat.reduceSub, Nat.reduceBEq, ↓reduceIte, bne_self_eq_false, Bool.and_false, Bool.false_and, Bool.true_or, Bool.false_or, Try.f20]
                  · cases hf
              · repeat (first
                    | refine tr_seq_k fun _ _ => ?_
                    | (refine tr_region ?_; simp only [go_sem, List.getElem?_toArray, str_beq, reduceCtorEq, Nat.reduceEqDiff, Nat.reduceLT, Nat.reduceLeDiff, Nat.reduceAdd, Nat.reduceMul, Nat.reduceSub, Nat.reduceBEq, ↓reduceIte, bne_self_eq_false, Bool.and_false, Bool.false_and, Bool.true_or, Bool.false_or, hb, d1, p1, hv, hv2])
                    | refine k_of (by assumption) ?_
                    | refine tr_block ?_
                    | refine tr_scope ?_
                    | (refine tr_skip ?_; try simp only [ex_seq, ex_block])
                    | (refine tr_label ?_; try simp only [ex_seq, ex_block])
                    | (refine tr_exit ?_; try simp only [ex_seq_exit, ex_block_exit, Nat.reduceEqDiff, if_true, if_false, ex_seq, ex_block, reduceCtorEq, ↓reduceIte])
                    | (refine tr_ret ?_; try simp only [ex_seq_ret, ex_block_ret]))
                refine tr_cond rfl (fun ht => ?_) (fun hf => ?_)
                · cases ht
                · repeat (first
                      | refine tr_seq_k fun _ _ => ?_
                      | (refine tr_region ?_; simp only [go_sem, List.getElem?_toArray, str_beq, reduceCtorEq, Nat.reduceEqDiff, Nat.reduceLT, Nat.reduceLeDiff, Nat.reduceAdd, Nat.reduceMul, Nat.reduceSub, Nat.reduceBEq, ↓reduceIte, bne_self_eq_false, Bool.and_false, Bool.false_and, Bool.true_or, Bool.false_or, hb, p1, hv, hv2, nd])
                      | refine k_of (by assumption) ?_
                      | refine tr_block ?_
                      | refine tr_scope ?_
                      | (refine tr_skip ?_; try simp only [ex_seq, ex_block])
                      | (refine tr_label ?_; try simp only [ex_seq, ex_block])
                      | (refine tr_exit ?_; try simp only [ex_seq_exit, ex_block_exit, Nat.reduceEqDiff, if_true, if_false, ex_seq, ex_block, reduceCtorEq, ↓reduceIte])
                      | (refine tr_ret ?_; try simp only [ex_seq_ret, ex_block_ret]))
                  refine tr_cond rfl (fun ht => ?_) (fun hf => ?_)
                  · repeat (first
                        | refine tr_seq_k fun _ _ => ?_
                        | (refine tr_region ?_; simp only [go_sem, List.getElem?_toArray, str_beq, reduceCtorEq, Nat.reduceEqDiff, Nat.reduceLT, Nat.reduceLeDiff, Nat.reduceAdd, Nat.reduceMul, Nat.reduceSub, Nat.reduceBEq, ↓reduceIte, bne_self_eq_false, Bool.and_false, Bool.false_and, Bool.true_or, Bool.false_or])
                        | refine k_of (by assumption) ?_
                        | refine tr_block ?_
                        | refine tr_scope ?_
                        | (refine tr_skip ?_; try simp only [ex_seq, ex_block])
                        | (refine tr_label ?_; try simp only [ex_seq, ex_block])
                        | (refine tr_exit ?_; try simp only [ex_seq_exit, ex_block_exit, Nat.reduceEqDiff, if_true, if_false, ex_seq, ex_block, reduceCtorEq, ↓reduceIte])
                        | (refine tr_ret ?_; try simp only [ex_seq_ret, ex_block_ret]))
                    refine tr_sub (fr' := [(0, .ptr b 0), (1, sA s), (6, iA E.length)]) ⟨rfl, rfl, rfl, trivial⟩ ?_
                    refine tr_drawX (id := 13) follows otApp (by kernel_rfl) [(0, .ptr b 0), (1, sA s), (6, iA E.length)] (setB (setB m2 b ⟨false, [.lsl h1' 0 (E.length + 1) 1, c2]⟩) b ⟨false, [.lsl h1' 0 (E.length + 1) 1, .lsl h2' 0 (E.length + 1) 1]⟩) ?_ ?_
                    · unfold otApp
                      simp only [go_sem, List.getElem?_toArray, str_beq, reduceCtorEq, Nat.reduceEqDiff, Nat.reduceLT, Nat.reduceLeDiff, Nat.reduceAdd, Nat.reduceMul, Nat.reduceSub, Nat.reduceBEq, ↓reduceIte, bne_self_eq_false, Bool.and_false, Bool.false_and, Bool.true_or, Bool.false_or, hb, p1, p2, ha1', ha2', hbA, hbB, setB_eq, gX]
                    · repeat (first
                          | refine tr_seq_k fun _ _ => ?_
                          | (refine tr_region ?_; simp only [go_sem, List.getElem?_toArray, str_beq, reduceCtorEq, Nat.reduceEqDiff, Nat.reduceLT, Nat.reduceLeDiff, Nat.reduceAdd, Nat.reduceMul, Nat.reduceSub, Nat.reduceBEq, ↓reduceIte, bne_self_eq_false, Bool.and_false, Bool.false_and, Bool.true_or, Bool.false_or])
                          | refine k_of (by assumption) ?_
                          | refine tr_block ?_
                          | refine tr_scope ?_
                          | (refine tr_skip ?_; try simp only [ex_seq, ex_block])
                          | (refine tr_label ?_; try simp only [ex_seq, ex_block])
                          | (refine tr_exit ?_; try simp only [ex_seq_exit, ex_block_exit, Nat.reduceEqDiff, if_true, if_false, ex_seq, ex_block, reduceCtorEq, ↓reduceIte])
                          | (refine tr_ret ?_; try simp only [ex_seq_ret, ex_block_ret]))
                      refine tr_sub (fr' := [(0, .ptr b 0), (1, sA s), (6, iA E.length)]) ⟨rfl, rfl, rfl, trivial⟩ ?_
                      refine tr_drawX (id := 14) follows otSet (by kernel_rfl) [(0, .ptr b 0), (1, sA s), (6, iA E.length)] (setB (setB (setB (setB m2 b ⟨false, [.lsl h1' 0 (E.length + 1) 1, c2]⟩) b ⟨false, [.lsl h1' 0 (E.length + 1) 1, .lsl h2' 0 (E.length + 1) 1]⟩) h1' ⟨false, blC stC (txE E ++ [s])⟩) h2' ⟨false, blC inC (usE E ++ [1])⟩) ?_ ?_
                      · unfold otSet
                        simp only [go_sem, List.getElem?_toArray, str_beq, reduceCtorEq, Nat.reduceEqDiff, Nat.reduceLT, Nat.reduceLeDiff, Nat.reduceAdd, Nat.reduceMul, Nat.reduceSub, Nat.reduceBEq, ↓reduceIte, bne_self_eq_false, Bool.and_false, Bool.false_and, Bool.true_or, Bool.false_or, gXX, gX1, gX2, gX2', gXb', i1, i2, f1, f2, e1, e2, setB_eq]
                      · repeat (first
                            | refine tr_seq_k fun _ _ => ?_
                            | (refine tr_region ?_; simp only [go_sem, List.getElem?_toArray, str_beq, reduceCtorEq, Nat.reduceEqDiff, Nat.reduceLT, Nat.reduceLeDiff, Nat.reduceAdd, Nat.reduceMul, Nat.reduceSub, Nat.reduceBEq, ↓reduceIte, bne_self_eq_false, Bool.and_false, Bool.false_and, Bool.true_or, Bool.false_or])
                            | refine k_of (by assumption) ?_
                            | refine tr_block ?_
                            | refine tr_scope ?_
                            | (refine tr_skip ?_; try simp only [ex_seq, ex_block])
                            | (refine tr_label ?_; try simp only [ex_seq, ex_block])
                            | (refine tr_exit ?_; try simp only [ex_seq_exit, ex_block_exit, Nat.reduceEqDiff, if_true, if_false, ex_seq, ex_block, reduceCtorEq, ↓reduceIte])
                            | (refine tr_ret ?_; try simp only [ex_seq_ret, ex_block_ret]))
                        refine (hQ _ _ [iA (E.length : Nat), iA 0] ?_ rfl rfl).2 <;> simp only [go_sem, List.getElem?_toArray, str_beq, reduceCtorEq, Nat.reduceEqDiff, Nat.reduceLT, Nat.reduceLeDiff, Nat.reduceAdd, Nat.reduceMul, Nat.reduceSub, Nat.reduceBEq, ↓reduceIte, bne_self_eq_false, Bool.and_false, Bool.false_and, Bool.true_or, Bool.false_or, Try.f20]
                  · cases hf
    · refine ⟨.lsl h1' 0 (E.length + 1) 1, .lsl h2' 0 (E.length + 1) 1, [h1'], [h2'], ?_, ?_, ?_, rfl, ?_⟩
      · rw [setB_ne hne2, setB_ne hne1]; exact gXX _ _
      · refine Or.inr ⟨h1', txE (E ++ [(s, 1)]), by simp [txE], rfl, ?_, (List.take_of_length_le (Nat.le_refl _)).symm⟩
        rw [setB_ne (Ne.symm hne12), show txE (E ++ [(s, 1)]) = txE E ++ [s] by simp [txE]]
        exact setB_self (by simp only [setB_len]; exact hl1') _
      · refine Or.inr ⟨h2', usE (E ++ [(s, 1)]), by simp [usE], rfl, ?_, (List.take_of_length_le (Nat.le_refl _)).symm⟩
        rw [show usE (E ++ [(s, 1)]) = usE E ++ [1] by simp [usE]]
        exact setB_self (by simp only [setB_len]; exact hl2') _
      · simp only [List.cons_append, List.nil_append, List.nodup_cons, List.mem_cons, List.not_mem_nil, or_false, not_or, not_false_eq_true, List.nodup_nil, and_true]
        exact ⟨⟨Ne.symm hne1, Ne.symm hne2⟩, hne12⟩
  · rw [if_neg hc]
    have hnlt : n < E.length := by omega
    obtain ⟨h', L', rfl, rfl, hL', hEL', hkL', hg'⟩ := row_getG hT (k := n) (by rw [txE_len]; exact hnlt)
    obtain ⟨h, L, rfl, rfl, hL, hEL, hkL, hg⟩ := row_getG hR (k := n) (by rw [usE_len]; exact hnlt)
    have hhl := (List.getElem?_eq_some_iff.1 hL).1
    have hhl' := (List.getElem?_eq_some_iff.1 hL').1
    have hhb : h ≠ b := fun e => hd.2.1 (by simp [e])
    have hhb' : h' ≠ b := fun e => hd.1 (by simp [e])
    have hhh : h' ≠ h := fun e => hd.2.2 h' (by simp) (by simp [e])
    have k2 : Kp m (setB (setB m h' ⟨false, blC stC (L'.set n s)⟩) h ⟨false, blC inC (L.set n 1)⟩) (b :: ([h'] ++ [h])) (b :: ([h'] ++ [h])) := ((Kp.refl hW _).put (i := h') (by simp) lows_blC).put (i := h) (by simp) lows_blC
    refine ⟨_, _, ?_, ?_, k2⟩
    · refine givesW_of' Try.func20 rfl (by kernel_rfl) Try.ntmps20 rfl rfl fun Q hQ => ?_
      repeat (first
          | refine tr_seq_k fun _ _ => ?_
          | (refine tr_region ?_; simp only [go_sem, List.getElem?_toArray, str_beq, reduceCtorEq, Nat.reduceEqDiff, Nat.reduceLT, Nat.reduceLeDiff, Nat.reduceAdd, Nat.reduceMul, Nat.reduceSub, Nat.reduceBEq, ↓reduceIte, bne_self_eq_false, Bool.and_false, Bool.false_and, Bool.true_or, Bool.false_or, h1, h2])
          | refine k_of (by assumption) ?_
          | refine tr_block ?_
          | refine tr_scope ?_
          | (refine tr_skip ?_; try simp only [ex_seq, ex_block])
          | (refine tr_label ?_; try simp only [ex_seq, ex_block])
          | (refine tr_exit ?_; try simp only [ex_seq_exit, ex_block_exit, Nat.reduceEqDiff, if_true, if_false, ex_seq, ex_block, reduceCtorEq, ↓reduceIte])
          | (refine tr_ret ?_; try simp only [ex_seq_ret, ex_block_ret]))
      refine tr_cond rfl (fun ht => ?_) (fun hf => ?_)
      · cases ht
      · repeat (first
            | refine tr_seq_k fun _ _ => ?_
            | (refine tr_region ?_; simp only [go_sem, List.getElem?_toArray, str_beq, reduceCtorEq, Nat.reduceEqDiff, Nat.reduceLT, Nat.reduceLeDiff, Nat.reduceAdd, Nat.reduceMul, Nat.reduceSub, Nat.reduceBEq, ↓reduceIte, bne_self_eq_false, Bool.and_false, Bool.false_and, Bool.true_or, Bool.false_or])
            | (refine call_givesW (cf) ?_; (try dsimp only); (try simp only [go_sem, List.getElem?_toArray, str_beq, reduceCtorEq, Nat.reduceEqDiff, Nat.reduceLT, Nat.reduceLeDiff, Nat.reduceAdd, Nat.reduceMul, Nat.reduceSub, Nat.reduceBEq, ↓reduceIte, bne_self_eq_false, Bool.and_false, Bool.false_and, Bool.true_or, Bool.false_or]))
            | refine k_of (by assumption) ?_
            | refine tr_block ?_
            | refine tr_scope ?_
            | (refine tr_skip ?_; try simp only [ex_seq, ex_block])
            | (refine tr_label ?_; try simp only [ex_seq, ex_block])
            | (refine tr_exit ?_; try simp only [ex_seq_exit, ex_block_exit, Nat.reduceEqDiff, if_true, if_false, ex_seq, ex_block, reduceCtorEq, ↓reduceIte])
            | (refine tr_ret ?_; try simp only [ex_seq_ret, ex_block_ret]))
        refine tr_cond rfl (fun ht => ?_) (fun hf => ?_)
        · cases ht
        · repeat (first
              | refine tr_seq_k fun _ _ => ?_
              | (refine tr_region ?_; simp only [go_sem, List.getElem?_toArray, str_beq, reduceCtorEq, Nat.reduceEqDiff, Nat.reduceLT, Nat.reduceLeDiff, Nat.reduceAdd, Nat.reduceMul, Nat.reduceSub, Nat.reduceBEq, ↓reduceIte, bne_self_eq_false, Bool.and_false, Bool.false_and, Bool.true_or, Bool.false_or, h3])
              | (refine call_givesW (cl) ?_; (try dsimp only); (try simp only [go_sem, List.getElem?_toArray, str_beq, reduceCtorEq, Nat.reduceEqDiff, Nat.reduceLT, Nat.reduceLeDiff, Nat.reduceAdd, Nat.reduceMul, Nat.reduceSub, Nat.reduceBEq, ↓reduceIte, bne_self_eq_false, Bool.and_false, Bool.false_and, Bool.true_or, Bool.false_or, h3]))
              | refine k_of (by assumption) ?_
              | refine tr_block ?_
              | refine tr_scope ?_
              | (refine tr_skip ?_; try simp only [ex_seq, ex_block])
              | (refine tr_label ?_; try simp only [ex_seq, ex_block])
              | (refine tr_exit ?_; try simp only [ex_seq_exit, ex_block_exit, Nat.reduceEqDiff, if_true, if_false, ex_seq, ex_block, reduceCtorEq, ↓reduceIte])
              | (refine tr_ret ?_; try simp only [ex_seq_ret, ex_block_ret]))
          refine tr_cond rfl (fun ht => ?_) (fun hf => ?_)
          · cases ht
          · repeat (first
                | refine tr_seq_k fun _ _ => ?_
                | (refine tr_region ?_; simp only [go_sem, List.getElem?_toArray, str_beq, reduceCtorEq, Nat.reduceEqDiff, Nat.reduceLT, Nat.reduceLeDiff, Nat.reduceAdd, Nat.reduceMul, Nat.reduceSub, Nat.reduceBEq, ↓reduceIte, bne_self_eq_false, Bool.and_false, Bool.false_and, Bool.true_or, Bool.false_or])
                | refine k_of (by assumption) ?_
                | refine tr_block ?_
                | refine tr_scope ?_
                | (refine tr_skip ?_; try simp only [ex_seq, ex_block])
                | (refine tr_label ?_; try simp only [ex_seq, ex_block])
                | (refine tr_exit ?_; try simp only [ex_seq_exit, ex_block_exit, Nat.reduceEqDiff, if_true, if_false, ex_seq, ex_block, reduceCtorEq, ↓reduceIte])
                | (refine tr_ret ?_; try simp only [ex_seq_ret, ex_block_ret]))
            refine tr_loop_k (σ := Nat) (fun k => [(0, .ptr b 0), (1, sA s), (6, iA k)]) (fun _ => m) (fun k => k ≤ n ∧ ∀ j (hj : j < k) (hE : j < E.length), (E[j]).1 ≠ emp) (fun k => E.length - k) 0 ⟨Nat.zero_le _, fun j hj => absurd hj (Nat.not_lt_zero _)⟩ ⟨rfl, rfl, rfl, trivial⟩ rfl ?_
            rintro k ⟨hk, hI⟩ K hK
            have hkl : k < E.length := by omega
            have hkT : k < (txE E).length := by rw [txE_len]; exact hkl
            have d1 : decide ((k : Int) < (((txE E).length : Nat) : Int)) = true := decide_eq_true (by omega)
            have i1 := st_idx (b := h') (n := (txE E).length) (i := k) hkT
            have hlL : (txE E).length ≤ L'.length := by
              have := congrArg List.length hEL'
              rw [List.length_take] at this
              omega
            have g1 := st_get (L := L') (i := k) (by omega)
            have hge : (E[k]).1 = L'[k] := by rw [← take_get hEL' hkT (by omega), txE_get]
            have ws := wrap_succ (show k ≤ 1000000000 by omega)
            cases d2 : decide (L'[k] = ⟨#[]⟩) with
            | true =>
              have d2' : (E[k]).1 = emp := by rw [hge]; exact of_decide_eq_true d2
              obtain rfl : k = n := by
                rw [← hn]
                exact (leastF_stop (by omega) hI (fun _ => d2')).symm
              repeat (first
                  | refine tr_seq_k fun _ _ => ?_
                  | (refine tr_region ?_; simp only [go_sem, List.getElem?_toArray, str_beq, reduceCtorEq, Nat.reduceEqDiff, Nat.reduceLT, Nat.reduceLeDiff, Nat.reduceAdd, Nat.reduceMul, Nat.reduceSub, Nat.reduceBEq, ↓reduceIte, bne_self_eq_false, Bool.and_false, Bool.false_and, Bool.true_or, Bool.false_or, hb, d1, hL', i1, g1, d2])
                  | refine k_of (by assumption) ?_
                  | refine tr_block ?_
                  | refine tr_scope ?_
                  | (refine tr_skip ?_; try simp only [ex_seq, ex_block])
                  | (refine tr_label ?_; try simp only [ex_seq, ex_block])
                  | (refine tr_exit ?_; try simp only [ex_seq_exit, ex_block_exit, Nat.reduceEqDiff, if_true, if_false, ex_seq, ex_block, reduceCtorEq, ↓reduceIte])
                  | (refine tr_ret ?_; try simp only [ex_seq_ret, ex_block_ret]))
              refine tr_cond rfl (fun ht => ?_) (fun hf => ?_)
              · cases ht
              · have nd : ((k : Int) == (((txE E).length : Nat) : Int)) = false := by
                  rw [beq_eq_false_iff_ne]
                  omega
                repeat (first
                    | refine tr_seq_k fun _ _ => ?_
                    | (refine tr_region ?_; simp only [go_sem, List.getElem?_toArray, str_beq, reduceCtorEq, Nat.reduceEqDiff, Nat.reduceLT, Nat.reduceLeDiff, Nat.reduceAdd, Nat.reduceMul, Nat.reduceSub, Nat.reduceBEq, ↓reduceIte, bne_self_eq_false, Bool.and_false, Bool.false_and, Bool.true_or, Bool.false_or, hb, hL', nd])
                    | refine k_of (by assumption) ?_
                    | refine tr_block ?_
                    | refine tr_scope ?_
                    | (refine tr_skip ?_; try simp only [ex_seq, ex_block])
                    | (refine tr_label ?_; try simp only [ex_seq, ex_block])
                    | (refine tr_exit ?_; try simp only [ex_seq_exit, ex_block_exit, Nat.reduceEqDiff, if_true, if_false, ex_seq, ex_block, reduceCtorEq, ↓reduceIte])
                    | (refine tr_ret ?_; try simp only [ex_seq_ret, ex_block_ret]))
                refine tr_cond rfl (fun ht => ?_) (fun hf => ?_)
                · cases ht
                · repeat (first
                      | refine tr_seq_k fun _ _ => ?_
                      | (refine tr_region ?_; simp only [go_sem, List.getElem?_toArray, str_beq, reduceCtorEq, Nat.reduceEqDiff, Nat.reduceLT, Nat.reduceLeDiff, Nat.reduceAdd, Nat.reduceMul, Nat.reduceSub, Nat.reduceBEq, ↓reduceIte, bne_self_eq_false, Bool.and_false, Bool.false_and, Bool.true_or, Bool.false_or])
                      | refine k_of (by assumption) ?_
                      | refine tr_block ?_
                      | refine tr_scope ?_
                      | (refine tr_skip ?_; try simp only [ex_seq, ex_block])
                      | (refine tr_label ?_; try simp only [ex_seq, ex_block])
                      | (refine tr_exit ?_; try simp only [ex_seq_exit, ex_block_exit, Nat.reduceEqDiff, if_true, if_false, ex_seq, ex_block, reduceCtorEq, ↓reduceIte])
                      | (refine tr_ret ?_; try simp only [ex_seq_ret, ex_block_ret]))
                  refine tr_drawX (id := 14) follows otSet (by kernel_rfl) [(0, .ptr b 0), (1, sA s), (6, iA k)] (setB (setB m h' ⟨false, blC stC (L'.set k s)⟩) h ⟨false, blC inC (L.set k 1)⟩) ?_ ?_
                  · have i2 := in_idx Try.underlying55 (b := h) (n := (usE E).length) (i := k) (by rw [usE_len]; exact hkl)
                    have f1 := st_fit hkL'
                    have f2 := in_fit hkL
                    have e1 := st_set hkL' s
                    have e2 := in_set hkL 1
                    have gb1 : ∀ x, (setB m h' x).hp[b]? = some ⟨false, [.lsl h' 0 (txE E).length 1, .lsl h 0 (usE E).length 1]⟩ := fun x => by rw [setB_ne hhb']; exact hb
                    have gh1 : ∀ x, (setB m h' x).hp[h]? = some ⟨false, blC inC L⟩ := fun x => by rw [setB_ne hhh]; exact hL
                    unfold otSet
                    simp only [go_sem, List.getElem?_toArray, str_beq, reduceCtorEq, Nat.reduceEqDiff, Nat.reduceLT, Nat.reduceLeDiff, Nat.reduceAdd, Nat.reduceMul, Nat.reduceSub, Nat.reduceBEq, ↓reduceIte, bne_self_eq_false, Bool.and_false, Bool.false_and, Bool.true_or, Bool.false_or, hb, hL', hL, i1, i2, f1, f2, e1, e2, setB_eq, gb1, gh1]
                  · repeat (first
                        | refine tr_seq_k fun _ _ => ?_
                        | (refine tr_region ?_; simp only [go_sem, List.getElem?_toArray, str_beq, reduceCtorEq, Nat.reduceEqDiff, Nat.reduceLT, Nat.reduceLeDiff, Nat.reduceAdd, Nat.reduceMul, Nat.reduceSub, Nat.reduceBEq, ↓reduceIte, bne_self_eq_false, Bool.and_false, Bool.false_and, Bool.true_or, Bool.false_or])
                        | refine k_of (by assumption) ?_
                        | refine tr_block ?_
                        | refine tr_scope ?_
                        | (refine tr_skip ?_; try simp only [ex_seq, ex_block])
                        | (refine tr_label ?_; try simp only [ex_seq, ex_block])
                        | (refine tr_exit ?_; try simp only [ex_seq_exit, ex_block_exit, Nat.reduceEqDiff, if_true, if_false, ex_seq, ex_block, reduceCtorEq, ↓reduceIte])
                        | (refine tr_ret ?_; try simp only [ex_seq_ret, ex_block_ret]))
                    refine (hQ _ _ [iA (k : Nat), iA 0] ?_ rfl rfl).2 <;> simp only [go_sem, List.getElem?_toArray, str_beq, reduceCtorEq, Nat.reduceEqDiff, Nat.reduceLT, Nat.reduceLeDiff, Nat.reduceAdd, Nat.reduceMul, Nat.reduceSub, Nat.reduceBEq, ↓reduceIte, bne_self_eq_false, Bool.and_false, Bool.false_and, Bool.true_or, Bool.false_or, Try.f20]
            | false =>
              have d2' : (E[k]).1 ≠ emp := by rw [hge]; exact of_decide_eq_false d2
              have hkn : k ≠ n := fun e => by
                have := (leastF_lt (E := E) hn hnlt).1
                subst e
                exact d2' this
              repeat (first
                  | refine tr_seq_k fun _ _ => ?_
                  | (refine tr_region ?_; simp only [go_sem, List.getElem?_toArray, str_beq, reduceCtorEq, Nat.reduceEqDiff, Nat.reduceLT, Nat.reduceLeDiff, Nat.reduceAdd, Nat.reduceMul, Nat.reduceSub, Nat.reduceBEq, ↓reduceIte, bne_self_eq_false, Bool.and_false, Bool.false_and, Bool.true_or, Bool.false_or, hb, d1, hL', i1, g1, d2])
                  | refine k_of (by assumption) ?_
                  | refine tr_block ?_
                  | refine tr_scope ?_
                  | (refine tr_skip ?_; try simp only [ex_seq, ex_block])
                  | (refine tr_label ?_; try simp only [ex_seq, ex_block])
                  | (refine tr_exit ?_; try simp only [ex_seq_exit, ex_block_exit, Nat.reduceEqDiff, if_true, if_false, ex_seq, ex_block, reduceCtorEq, ↓reduceIte])
                  | (refine tr_ret ?_; try simp only [ex_seq_ret, ex_block_ret]))
              refine tr_cond rfl (fun ht => ?_) (fun hf => ?_)
              · repeat (first
                    | refine tr_seq_k fun _ _ => ?_
                    | (refine tr_region ?_; simp only [go_sem, List.getElem?_toArray, str_beq, reduceCtorEq, Nat.reduceEqDiff, Nat.reduceLT, Nat.reduceLeDiff, Nat.reduceAdd, Nat.reduceMul, Nat.reduceSub, Nat.reduceBEq, ↓reduceIte, bne_self_eq_false, Bool.and_false, Bool.false_and, Bool.true_or, Bool.false_or, ws])
                    | refine k_of (by assumption) ?_
                    | refine tr_block ?_
                    | refine tr_scope ?_
                    | (refine tr_skip ?_; try simp only [ex_seq, ex_block])
                    | (refine tr_label ?_; try simp only [ex_seq, ex_block])
                    | (refine tr_exit ?_; try simp only [ex_seq_exit, ex_block_exit, Nat.reduceEqDiff, if_true, if_false, ex_seq, ex_block, reduceCtorEq, ↓reduceIte])
                    | (refine tr_ret ?_; try simp only [ex_seq_ret, ex_block_ret]))
                exact hK (k + 1) _ _ ⟨by omega, fun j hj hE => by
                  rcases Nat.lt_succ_iff_lt_or_eq.1 hj with h | rfl
                  · exact hI j h hE
                  · exact d2'⟩ ⟨⟨rfl, rfl, rfl, trivial⟩, Keep.refl _, by simp only [lowF, low, Bool.and_true, Bool.true_and, Nat.blt_eq]; exact hlt, hW, Nat.le_refl _, Nat.le_refl _⟩ (by omega)
              · cases hf
    · refine ⟨.lsl h' 0 (txE E).length 1, .lsl h 0 (usE E).length 1, [h'], [h], ?_, ?_, ?_, rfl, hnd⟩
      · rw [setB_ne hhb, setB_ne hhb']; exact hb
      · rw [txE_set]
        refine Or.inr ⟨h', _, by rw [List.length_set], rfl, ?_, take_set hEL' (by rw [txE_len]; exact hnlt) _⟩
        rw [setB_ne (Ne.symm hhh)]
        exact setB_self hhl' _
      · rw [usE_set]
        exact Or.inr ⟨h, L.set n 1, by rw [List.length_set], rfl, setB_self (by rw [setB_len]; exact hhl) _, take_set hEL (by rw [usE_len]; exact hnlt) _⟩
end Go.Proofs.Ytlhlcfijpdknfaa

/-
  Chapter 2: the document's Each; lists of entries compared; Take of the document, in all; light.
-/
set_option linter.unusedSimpArgs false
set_option linter.unusedVariables false
namespace Go.Proofs.Ytlhlcfijpdknfaa
open Go.Vs Go.Vs.Ab Go.Vs.Hp Go.Vs.Tb
set_option maxRecDepth 100000
set_option maxHeartbeats 4000000

/-- What was collected, its room forgotten. -/
theorem shutCol {P : Program} {F : FuncId} {args : List AV} {m : Mm} {T : Type} {enc : T → List CV} {e : TypeId} {size : Nat} {l : List T} (h : GivesW P F args m (colA enc m.hw.length l) ⟨m.hp, m.hw ++ colH e size l⟩) : GivesW P F args m (slR enc l.isEmpty l) m := by
  refine ⟨h.1, fun X W0 w vs M hr => (h.2 X W0 w vs M hr).mono ?_⟩
  rintro e w' ⟨v, X', rfl, hle, hv, M'⟩
  refine ⟨v, X'.cut m.hp.length m.hw.length, rfl, RelOk.cut (R := fle) hle (fun k β hk => M.ldom k β hk) (fun k T hk => M.odom k T hk), ?_, M'.cut ⟨⟨[], by simp⟩, ⟨_, rfl⟩⟩ M.lowB⟩
  cases l with
  | nil => exact Rep.cut (c := .c (.sl true 0 [])) hv rfl
  | cons x l => exact Rep.cut (c := .c (.sl false (l.length + 1) ((x :: l).flatMap enc))) (.c hv.ro) rfl

theorem exL_app (E : List Ent) (e : Ent) : exL (E ++ [e]) = exL E ++ if liveB e then [(E.length, e.1)] else [] := by
  unfold exL
  rw [lives_append, List.map_append]
  congr 1
  · refine List.map_congr_left fun i hi => ?_
    obtain ⟨e', he, _⟩ := mem_lives.1 hi
    have hi := (List.getElem?_eq_some_iff.1 he).1
    rw [List.getD_eq_getElem?_getD, List.getD_eq_getElem?_getD, List.getElem?_append_left hi]
  · cases liveB e <;> simp [List.getD_eq_getElem?_getD]
theorem exL_take {E : List Ent} {k : Nat} (hk : k < E.length) : exL (E.take (k + 1)) = exL (E.take k) ++ if liveB E[k] then [(k, (E[k]).1)] else [] := by
  rw [← List.take_append_getElem hk, exL_app, List.length_take, Nat.min_eq_left (by omega)]
theorem exL_le (E : List Ent) : (exL E).length ≤ E.length := by
  rw [exL_len]
  unfold lives
  exact Nat.le_trans (List.length_filter_le _ _) (by rw [List.length_range]; exact Nat.le_refl _)
theorem ex_hk (p : Nat × ByteArray) : (exC p).length = 2 := rfl
theorem info_ent : info3 Try.prog 52 = some (2, 24) := by kernel_rfl
theorem build1X (x : Int) (s : ByteArray) : aBuildSlice Try.prog 47 1 [(0, .agg [.v (.int .i64 x), .v (.string s)])] = some [.v (.int .i64 x), .v (.string s)] := build1 Try.underlying47 sz52 ze52 (by decide) (by decide) (by decide) rfl rfl
attribute [go_sem] build1X
theorem low_colK {T : Type} (enc : T → List CV) (e : TypeId) (size : Nat) (l : List T) (hw : List Hw) (i : Nat) : low i (hw ++ colH e size l).length (colA enc hw.length l) = true := by
  cases l with
  | nil => rfl
  | cons x l => simp only [colA, colH, low, List.length_append, List.length_singleton, Nat.blt_eq]; omega

theorem each_gives {m : Mm} {b : Nat} {E : List Ent} {S : List Nat} (h : RefM m b E S) (hW : Wf m) (hM : E.length ≤ 1000) : GivesW Try.prog 28 [.ptr b 0] m (slR exC (exL E).isEmpty (exL E)) m := by
  refine shutCol (e := 52) (size := 2) ?_
  have hlt := h.lt
  obtain ⟨c1, c2, s1, s2, hb, hT, hU, hS, hnd⟩ := h
  have p1 := hT.plain1
  have e0 : exL (E.take 0) = [] := rfl
  have lf : ∀ (k : Nat) (L : List (Nat × ByteArray)), lowF m.hp.length (m.hw ++ colH 52 2 L).length [(0, .ptr b 0), (3, colA exC m.hw.length L), (4, iA k)] = true := fun k L => by
    simp only [lowF, low_colK, low, Bool.and_true, Nat.blt_eq]
    exact hlt
  have lb : ∀ L : List (Nat × ByteArray), lowB m.hp.length (m.hw ++ colH 52 2 L).length m.hp = true := fun L => lowB_mono (Nat.le_refl _) (by rw [List.length_append]; omega) hW
  refine givesW_of' Try.func28 rfl (by kernel_rfl) Try.ntmps28 rfl rfl fun Q hQ => ?_
  repeat (first
      | refine tr_seq_k fun _ _ => ?_
      | (refine tr_region ?_; simp only [go_sem, List.getElem?_toArray, str_beq, reduceCtorEq, Nat.reduceEqDiff, Nat.reduceLT, Nat.reduceLeDiff, Nat.reduceAdd, Nat.reduceMul, Nat.reduceSub, Nat.reduceBEq, ↓reduceIte, bne_self_eq_false, Bool.and_false, Bool.false_and, Bool.true_or, Bool.false_or])
      | refine k_of (by assumption) ?_
      | refine tr_block ?_
      | refine tr_scope ?_
      | (refine tr_skip ?_; try simp only [ex_seq, ex_block])
      | (refine tr_label ?_; try simp only [ex_seq, ex_block])
      | (refine tr_exit ?_; try simp only [ex_seq_exit, ex_block_exit, Nat.reduceEqDiff, if_true, if_false, ex_seq, ex_block, reduceCtorEq, ↓reduceIte])
      | (refine tr_ret ?_; try simp only [ex_seq_ret, ex_block_ret]))
  refine tr_loop_k (σ := Nat) (fun k => [(0, .ptr b 0), (3, colA exC m.hw.length (exL (E.take k))), (4, iA k)]) (fun k => ⟨m.hp, m.hw ++ colH 52 2 (exL (E.take k))⟩) (fun k => k ≤ E.length) (fun k => E.length - k) 0 (Nat.zero_le _) ⟨rfl, rfl, rfl, trivial⟩ (by rw [e0]; simp [colH]) ?_
  rintro k hk K hK
  have hLl : (exL (E.take k)).length ≤ 1000 := Nat.le_trans (exL_le _) (by rw [List.length_take]; omega)
  have hBl : ∀ L : List (Nat × ByteArray), (m.hw ++ colH 52 2 (exL (E.take 0))).length ≤ (m.hw ++ colH 52 2 L).length := fun L => by
    rw [e0, List.length_append, List.length_append]
    exact Nat.add_le_add_left (Nat.zero_le _) _
  by_cases hkl : k < E.length
  · obtain ⟨h, L, rfl, _, hL, hEL, hkL, hg⟩ := row_getG hT (k := k) (by rw [txE_len]; exact hkl)
    have h1 : decide ((k : Int) < (((txE E).length : Nat) : Int)) = true := decide_eq_true (by rw [txE_len]; omega)
    have i1 := st_idx (b := h) (n := (txE E).length) (i := k) (by rw [txE_len]; exact hkl)
    have g1 := st_get hkL
    have ws := wrap_succ (show k ≤ 1000000000 by omega)
    have hge : (E[k]).1 = L[k] := by rw [hg, txE_get]
    have hlk := exL_take hkl
    generalize hO : exL (E.take k) = O at *
    have ap := fun ex => app_col (P := Try.prog) (t := 47) exC ex_hk Try.underlying47 info_ent (hp := m.hp) (hw := m.hw) (l := O) (x := (k, L[k])) (ex := ex) (by unfold maxLen; omega) (by omega)
    have ap : ∀ ex, aAppend Try.prog ⟨m.hp, m.hw ++ colH 52 2 O⟩ 47 (colA exC m.hw.length O) (.c (.sl ex 1 [.v (.int .i64 (k : Int)), .v (.string L[k])])) = some (colA exC m.hw.length (O ++ [(k, L[k])]), ⟨m.hp, m.hw ++ colH 52 2 (O ++ [(k, L[k])])⟩) := ap
    repeat (first
        | refine tr_seq_k fun _ _ => ?_
        | (refine tr_region ?_; simp only [go_sem, List.getElem?_toArray, str_beq, reduceCtorEq, Nat.reduceEqDiff, Nat.reduceLT, Nat.reduceLeDiff, Nat.reduceAdd, Nat.reduceMul, Nat.reduceSub, Nat.reduceBEq, ↓reduceIte, bne_self_eq_false, Bool.and_false, Bool.false_and, Bool.true_or, Bool.false_or, hb, h1])
        | refine k_of (by assumption) ?_
        | refine tr_block ?_
        | refine tr_scope ?_
        | (refine tr_skip ?_; try simp only [ex_seq, ex_block])
        | (refine tr_label ?_; try simp only [ex_seq, ex_block])
        | (refine tr_exit ?_; try simp only [ex_seq_exit, ex_block_exit, Nat.reduceEqDiff, if_true, if_false, ex_seq, ex_block, reduceCtorEq, ↓reduceIte])
        | (refine tr_ret ?_; try simp only [ex_seq_ret, ex_block_ret]))
    refine tr_cond rfl (fun ht => ?_) (fun hf => ?_)
    · cases h2 : decide (L[k] = ⟨#[]⟩) with
      | true =>
        have h2' : (E[k]).1 = emp := by rw [hge]; exact of_decide_eq_true h2
        rw [show liveB E[k] = false by simp [liveB, h2'], if_neg Bool.false_ne_true, List.append_nil] at hlk
        repeat (first
            | refine tr_seq_k fun _ _ => ?_
            | (refine tr_region ?_; simp only [go_sem, List.getElem?_toArray, str_beq, reduceCtorEq, Nat.reduceEqDiff, Nat.reduceLT, Nat.reduceLeDiff, Nat.reduceAdd, Nat.reduceMul, Nat.reduceSub, Nat.reduceBEq, ↓reduceIte, bne_self_eq_false, Bool.and_false, Bool.false_and, Bool.true_or, Bool.false_or, hb, h1, hL, i1, g1, h2])
            | refine k_of (by assumption) ?_
            | refine tr_block ?_
            | refine tr_scope ?_
            | (refine tr_skip ?_; try simp only [ex_seq, ex_block])
            | (refine tr_label ?_; try simp only [ex_seq, ex_block])
            | (refine tr_exit ?_; try simp only [ex_seq_exit, ex_block_exit, Nat.reduceEqDiff, if_true, if_false, ex_seq, ex_block, reduceCtorEq, ↓reduceIte])
            | (refine tr_ret ?_; try simp only [ex_seq_ret, ex_block_ret]))
        refine tr_cond rfl (fun ht => ?_) (fun hf => ?_)
        · cases ht
        · repeat (first
              | refine tr_seq_k fun _ _ => ?_
              | (refine tr_region ?_; simp only [go_sem, List.getElem?_toArray, str_beq, reduceCtorEq, Nat.reduceEqDiff, Nat.reduceLT, Nat.reduceLeDiff, Nat.reduceAdd, Nat.reduceMul, Nat.reduceSub, Nat.reduceBEq, ↓reduceIte, bne_self_eq_false, Bool.and_false, Bool.false_and, Bool.true_or, Bool.false_or, ws])
              | refine k_of (by assumption) ?_
              | refine tr_block ?_
              | refine tr_scope ?_
              | (refine tr_skip ?_; try simp only [ex_seq, ex_block])
              | (refine tr_label ?_; try simp only [ex_seq, ex_block])
              | (refine tr_exit ?_; try simp only [ex_seq_exit, ex_block_exit, Nat.reduceEqDiff, if_true, if_false, ex_seq, ex_block, reduceCtorEq, ↓reduceIte])
              | (refine tr_ret ?_; try simp only [ex_seq_ret, ex_block_ret]))
          exact hK (k + 1) _ _ hkl ⟨⟨rfl, by rw [hlk]; rfl, rfl, trivial⟩, by rw [hlk]; exact Keep.refl _, lf _ _, lb _, Nat.le_refl _, hBl _⟩ (by omega)
      | false =>
        have h2' : (E[k]).1 ≠ emp := by rw [hge]; exact of_decide_eq_false h2
        rw [show liveB E[k] = true by simp [liveB, h2'], if_pos rfl, hge] at hlk
        repeat (first
            | refine tr_seq_k fun _ _ => ?_
            | (refine tr_region ?_; simp only [go_sem, List.getElem?_toArray, str_beq, reduceCtorEq, Nat.reduceEqDiff, Nat.reduceLT, Nat.reduceLeDiff, Nat.reduceAdd, Nat.reduceMul, Nat.reduceSub, Nat.reduceBEq, ↓reduceIte, bne_self_eq_false, Bool.and_false, Bool.false_and, Bool.true_or, Bool.false_or, hb, h1, hL, i1, g1, h2])
            | refine k_of (by assumption) ?_
            | refine tr_block ?_
            | refine tr_scope ?_
            | (refine tr_skip ?_; try simp only [ex_seq, ex_block])
            | (refine tr_label ?_; try simp only [ex_seq, ex_block])
            | (refine tr_exit ?_; try simp only [ex_seq_exit, ex_block_exit, Nat.reduceEqDiff, if_true, if_false, ex_seq, ex_block, reduceCtorEq, ↓reduceIte])
            | (refine tr_ret ?_; try simp only [ex_seq_ret, ex_block_ret]))
        refine tr_cond rfl (fun ht => ?_) (fun hf => ?_)
        · repeat (first
              | refine tr_seq_k fun _ _ => ?_
              | (refine tr_region ?_; simp only [go_sem, List.getElem?_toArray, str_beq, reduceCtorEq, Nat.reduceEqDiff, Nat.reduceLT, Nat.reduceLeDiff, Nat.reduceAdd, Nat.reduceMul, Nat.reduceSub, Nat.reduceBEq, ↓reduceIte, bne_self_eq_false, Bool.and_false, Bool.false_and, Bool.true_or, Bool.false_or, hb, h1, hL, i1, g1, ap, ws])
              | refine k_of (by assumption) ?_
              | refine tr_block ?_
              | refine tr_scope ?_
              | (refine tr_skip ?_; try simp only [ex_seq, ex_block])
              | (refine tr_label ?_; try simp only [ex_seq, ex_block])
              | (refine tr_exit ?_; try simp only [ex_seq_exit, ex_block_exit, Nat.reduceEqDiff, if_true, if_false, ex_seq, ex_block, reduceCtorEq, ↓reduceIte])
              | (refine tr_ret ?_; try simp only [ex_seq_ret, ex_block_ret]))
          exact hK (k + 1) _ _ hkl ⟨⟨rfl, by rw [hlk]; rfl, rfl, trivial⟩, by rw [hlk]; exact Keep.refl _, lf _ _, lb _, Nat.le_refl _, hBl _⟩ (by omega)
        · cases hf
    · cases hf
  · have h1 : decide ((k : Int) < (((txE E).length : Nat) : Int)) = false := decide_eq_false (by rw [txE_len]; omega)
    have hr : exL (E.take k) = exL E := by rw [List.take_of_length_le (by omega)]
    rw [hr]
    rcases slV_row hT with ⟨cs, hv, hv2⟩ | ⟨b', hv, hv2⟩
    · repeat (first
          | refine tr_seq_k fun _ _ => ?_
          | (refine tr_region ?_; simp only [go_sem, List.getElem?_toArray, str_beq, reduceCtorEq, Nat.reduceEqDiff, Nat.reduceLT, Nat.reduceLeDiff, Nat.reduceAdd, Nat.reduceMul, Nat.reduceSub, Nat.reduceBEq, ↓reduceIte, bne_self_eq_false, Bool.and_false, Bool.false_and, Bool.true_or, Bool.false_or, hb, h1, p1, hv, hv2])
          | refine k_of (by assumption) ?_
          | refine tr_block ?_
          | refine tr_scope ?_
          | (refine tr_skip ?_; try simp only [ex_seq, ex_block])
          | (refine tr_label ?_; try simp only [ex_seq, ex_block])
          | (refine tr_exit ?_; try simp only [ex_seq_exit, ex_block_exit, Nat.reduceEqDiff, if_true, if_false, ex_seq, ex_block, reduceCtorEq, ↓reduceIte])
          | (refine tr_ret ?_; try simp only [ex_seq_ret, ex_block_ret]))
      refine tr_cond rfl (fun ht => ?_) (fun hf => ?_)
      · cases ht
      · repeat (first
            | refine tr_seq_k fun _ _ => ?_
            | (refine tr_region ?_; simp only [go_sem, List.getElem?_toArray, str_beq, reduceCtorEq, Nat.reduceEqDiff, Nat.reduceLT, Nat.reduceLeDiff, Nat.reduceAdd, Nat.reduceMul, Nat.reduceSub, Nat.reduceBEq, ↓reduceIte, bne_self_eq_false, Bool.and_false, Bool.false_and, Bool.true_or, Bool.false_or])
            | refine k_of (by assumption) ?_
            | refine tr_block ?_
            | refine tr_scope ?_
            | (refine tr_skip ?_; try simp only [ex_seq, ex_block])
            | (refine tr_label ?_; try simp only [ex_seq, ex_block])
            | (refine tr_exit ?_; try simp only [ex_seq_exit, ex_block_exit, Nat.reduceEqDiff, if_true, if_false, ex_seq, ex_block, reduceCtorEq, ↓reduceIte])
            | (refine tr_ret ?_; try simp only [ex_seq_ret, ex_block_ret]))
        refine (hQ _ _ [colA exC m.hw.length (exL E)] ?_ rfl rfl).2 <;> simp only [go_sem, List.getElem?_toArray, str_beq, reduceCtorEq, Nat.reduceEqDiff, Nat.reduceLT, Nat.reduceLeDiff, Nat.reduceAdd, Nat.reduceMul, Nat.reduceSub, Nat.reduceBEq, ↓reduceIte, bne_self_eq_false, Bool.and_false, Bool.false_and, Bool.true_or, Bool.false_or, Try.f28]
    · repeat (first
          | refine tr_seq_k fun _ _ => ?_
          | (refine tr_region ?_; simp only [go_sem, List.getElem?_toArray, str_beq, reduceCtorEq, Nat.reduceEqDiff, Nat.reduceLT, Nat.reduceLeDiff, Nat.reduceAdd, Nat.reduceMul, Nat.reduceSub, Nat.reduceBEq, ↓reduceIte, bne_self_eq_false, Bool.and_false, Bool.false_and, Bool.true_or, Bool.false_or, hb, h1, p1, hv, hv2])
          | refine k_of (by assumption) ?_
          | refine tr_block ?_
          | refine tr_scope ?_
          | (refine tr_skip ?_; try simp only [ex_seq, ex_block])
          | (refine tr_label ?_; try simp only [ex_seq, ex_block])
          | (refine tr_exit ?_; try simp only [ex_seq_exit, ex_block_exit, Nat.reduceEqDiff, if_true, if_false, ex_seq, ex_block, reduceCtorEq, ↓reduceIte])
          | (refine tr_ret ?_; try simp only [ex_seq_ret, ex_block_ret]))
      refine tr_cond rfl (fun ht => ?_) (fun hf => ?_)
      · cases ht
      · repeat (first
            | refine tr_seq_k fun _ _ => ?_
            | (refine tr_region ?_; simp only [go_sem, List.getElem?_toArray, str_beq, reduceCtorEq, Nat.reduceEqDiff, Nat.reduceLT, Nat.reduceLeDiff, Nat.reduceAdd, Nat.reduceMul, Nat.reduceSub, Nat.reduceBEq, ↓reduceIte, bne_self_eq_false, Bool.and_false, Bool.false_and, Bool.true_or, Bool.false_or])
            | refine k_of (by assumption) ?_
            | refine tr_block ?_
            | refine tr_scope ?_
            | (refine tr_skip ?_; try simp only [ex_seq, ex_block])
            | (refine tr_label ?_; try simp only [ex_seq, ex_block])
            | (refine tr_exit ?_; try simp only [ex_seq_exit, ex_block_exit, Nat.reduceEqDiff, if_true, if_false, ex_seq, ex_block, reduceCtorEq, ↓reduceIte])
            | (refine tr_ret ?_; try simp only [ex_seq_ret, ex_block_ret]))
        refine (hQ _ _ [colA exC m.hw.length (exL E)] ?_ rfl rfl).2 <;> simp only [go_sem, List.getElem?_toArray, str_beq, reduceCtorEq, Nat.reduceEqDiff, Nat.reduceLT, Nat.reduceLeDiff, Nat.reduceAdd, Nat.reduceMul, Nat.reduceSub, Nat.reduceBEq, ↓reduceIte, bne_self_eq_false, Bool.and_false, Bool.false_and, Bool.true_or, Bool.false_or, Try.f28]
end Go.Proofs.Ytlhlcfijpdknfaa

/-
  Chapter 2: lists of entries compared; the document's Take, in all; light.
-/
set_option linter.unusedSimpArgs false
set_option linter.unusedVariables false
namespace Go.Proofs.Ytlhlcfijpdknfaa
open Go.Vs Go.Vs.Ab Go.Vs.Hp Go.Vs.Tb
set_option maxRecDepth 100000
set_option maxHeartbeats 4000000

theorem rtake_tab {m : Mm} {b : Nat} {E : List Ent} {S : List Nat} (h : RefM m b E S) (hW : Wf m) (s : ByteArray) (hM : E.length ≤ 1000) (hU : ∀ e ∈ E, e.2 ≤ 100000) :
    ∃ m' S', GivesW Try.prog 20 [.ptr b 0, sA s] m (.tup [iA ((takeS E s).1.1 : Nat), iA (takeS E s).1.2]) m' ∧ RefM m' b (takeS E s).2 S' ∧ Kp m m' S S' := by
  unfold takeS
  by_cases hs : s.size < 1 ∨ 255 < s.size
  · rw [if_pos hs]
    exact ⟨m, S, rtake_bad h hs, h, Kp.refl hW S⟩
  · rw [if_neg hs]
    cases hf : findS E s with
    | some n =>
      obtain ⟨m', h1, h2, h3⟩ := rtake_found h hW hM hs hf hU
      exact ⟨m', S, h1, h2, h3⟩
    | none =>
      have hl : ¬ 65536 ≤ liveN E := by have := liveN_le E; omega
      simp only [if_neg hl]
      exact rtake_new h hW hM hs hf

theorem int_beq (a b : Int) : (a == b) = decide (a = b) := by
  rw [Bool.eq_iff_iff, beq_iff_eq, decide_eq_true_eq]
theorem int_bne (a b : Int) : (a != b) = !decide (a = b) := by
  unfold bne
  rw [int_beq]
attribute [go_sem] int_beq int_bne
theorem ba_beq (a b : ByteArray) : (a == b) = decide (a = b) := by
  have h : (a == b) = (a.data == b.data) := rfl
  rw [h, Bool.eq_iff_iff, beq_iff_eq, decide_eq_true_eq]
  exact ⟨fun h => by cases a; cases b; simp at h; simp [h], fun h => by rw [h]⟩
theorem pv_under {P : Program} {t : TypeId} {d : TypeDesc} (h : P.underlying t = some d) : pureVal P (underlying t) = some d := by
  simp only [underlying, program, pureVal, bind, Sem.bind, h, pure]
theorem pv_prog {P : Program} : pureVal P program = some P := rfl
theorem held_ex : Try.prog.stoodInHeld 52 = false := by kernel_rfl
theorem pv_isAgg {P : Program} {t : TypeId} {d : TypeDesc} (h : P.underlying t = some d) : pureVal P (isAgg t) = some (aggD d) := by
  unfold isAgg
  rw [pv_bind, pv_under h]
  cases d <;> rfl
theorem pv_part1 {P : Program} {t : TypeId} {d : TypeDesc} (h : P.underlying t = some d) (ha : aggD d = false) {cs : Array Value} {off : Nat} {v : Value} (hv : cs[off]? = some v) : pureVal P (part t cs off) = some v := by
  unfold part
  rw [pv_bind, pv_isAgg h, Option.bind_some, ha]
  simp only [Bool.false_eq_true, if_false, hv]
  rfl
theorem pv_eq_str {d : Nat} (a b : ByteArray) : pureVal Try.prog (Op.equalIn (d + 1) 9 (.string a) (.string b)) = some (decide (a = b)) := by
  unfold Op.equalIn
  rw [pv_bind, pv_under Try.underlying9]
  show some (a == b) = _
  rw [ba_beq]
theorem pv_eq_int {d : Nat} (a b : Int) : pureVal Try.prog (Op.equalIn (d + 1) 3 (.int .i64 a) (.int .i64 b)) = some (decide (a = b)) := by
  unfold Op.equalIn
  rw [pv_bind, pv_under Try.underlying3]
  show some (a == b) = _
  by_cases h : a = b
  · subst h; simp
  · simp [h]
theorem pv_if {α : Type} {P : Program} (c : Prop) [Decidable c] (x y : Sem α) : pureVal P (if c then x else y) = if c then pureVal P x else pureVal P y := by split <;> rfl
theorem pv_eq_ex {d : Nat} (a b : Nat × ByteArray) : pureVal Try.prog (Op.equalIn (d + 2) 52 (.agg #[.int .i64 (a.1 : Int), .string a.2]) (.agg #[.int .i64 (b.1 : Int), .string b.2])) = some (decide (a = b)) := by
  unfold Op.equalIn
  rw [pv_bind, pv_under Try.underlying52]
  have p0 : ∀ s : Nat × ByteArray, pureVal Try.prog (part 3 #[.int .i64 (s.1 : Int), .string s.2] 0) = some (.int .i64 (s.1 : Int)) := fun s => pv_part1 Try.underlying3 rfl rfl
  have p1 : ∀ s : Nat × ByteArray, pureVal Try.prog (part 9 #[.int .i64 (s.1 : Int), .string s.2] 1) = some (.string s.2) := fun s => pv_part1 Try.underlying9 rfl rfl
  have e0 := pv_eq_int (d := d) (a.1 : Int) (b.1 : Int)
  have e1 := pv_eq_str (d := d) a.2 b.2
  have q0 := p0 a
  have q1 := p0 b
  have q2 := p1 a
  have q3 := p1 b
  have hd : decide (a = b) = (decide ((a.1 : Int) = (b.1 : Int)) && decide (a.2 = b.2)) := by
    obtain ⟨s, t⟩ := a
    obtain ⟨s', t'⟩ := b
    simp only [Prod.mk.injEq, ← Bool.decide_and, Int.natCast_inj]
  rw [hd]
  generalize decide ((a.1 : Int) = (b.1 : Int)) = c0 at *
  generalize decide (a.2 = b.2) = c1 at *
  simp only [Option.bind_some, pv_bind, pv_prog, held_ex, Bool.false_eq_true, if_false, List.forIn_toArray, List.forIn_cons, List.forIn_nil, pv_pure, pv_if, ne_eq, String.reduceEq, not_false_eq_true, if_true, q0, q1, q2, q3, e0, e1]
  cases c0 <;> cases c1 <;> simp [pv_pure, pv_bind, pv_if, q2, q3, e1]
theorem bin_neX (x y : Operand) (s t : Nat × ByteArray) : pureVal Try.prog (do eqGuard .neq 52 x y (.agg #[.int .i64 (s.1 : Int), .string s.2]) (.agg #[.int .i64 (t.1 : Int), .string t.2]); binOp .neq 52 (.agg #[.int .i64 (s.1 : Int), .string s.2]) (.agg #[.int .i64 (t.1 : Int), .string t.2])) = some (.bool (!decide (s = t))) := by
  have hg : Try.prog.eqGuardType Try.prog.depth 52 = false := by kernel_rfl
  have h := pv_eq_ex (d := 9998) s t
  have g : pureVal Try.prog (eqGuard .neq 52 x y (.agg #[.int .i64 (s.1 : Int), .string s.2]) (.agg #[.int .i64 (t.1 : Int), .string t.2])) = some () := by
    simp [eqGuard, pv_bind, pv_prog, pv_pure, hg]
  rw [pv_bind, g, Option.bind_some]
  have e : binOp .neq 52 (.agg #[.int .i64 (s.1 : Int), .string s.2]) (.agg #[.int .i64 (t.1 : Int), .string t.2]) = (do pure (Value.bool (!(← Op.equal 52 (.agg #[.int .i64 (s.1 : Int), .string s.2]) (.agg #[.int .i64 (t.1 : Int), .string t.2]))))) := rfl
  rw [e, pv_bind]
  have h' : pureVal Try.prog (Op.equal 52 (.agg #[.int .i64 (s.1 : Int), .string s.2]) (.agg #[.int .i64 (t.1 : Int), .string t.2])) = some (decide (s = t)) := h
  rw [h']
  rfl
attribute [go_sem] exC
theorem idxX {ex : Bool} {l : List (Nat × ByteArray)} {k : Nat} (h : k < l.length) : aIndexAddr Try.prog 47 (slR exC ex l) (.c (.v (.int .i64 (k : Int)))) = some (.cptr (exC l[k] ++ (l.drop (k + 1)).flatMap exC)) :=
  idx_R exC 2 (fun _ => rfl) Try.underlying47 sz52 (by decide) h
theorem take_next_eq {A : Type} {a b : List A} {k : Nat} (ha : k < a.length) (hb : k < b.length) (h : a.take k = b.take k) (e : a[k] = b[k]) : a.take (k + 1) = b.take (k + 1) := by
  rw [List.take_succ_eq_append_getElem ha, List.take_succ_eq_append_getElem hb, h, e]
theorem sameX_does (a b : List (Nat × ByteArray)) (ex ex2 : Bool) (hl : a.length ≤ 1000000) : Does Try.prog 27 [slR exC ex a, slR exC ex2 b] (fun m => (bA (decide (a = b)), m)) := by
  cases h1 : decide ((a.length : Int) = (b.length : Int)) with
  | false =>
    have hr : decide (a = b) = false := decide_eq_false fun e => of_decide_eq_false h1 (by rw [e])
    refine does_of' Try.func27 rfl (by kernel_rfl) rfl Try.ntmps27 rfl rfl fun Q hQ => ?_
    repeat (first
        | refine tr_seq_k fun _ _ => ?_
        | (refine tr_region ?_; simp only [go_sem, List.getElem?_toArray, str_beq, reduceCtorEq, Nat.reduceEqDiff, Nat.reduceLT, Nat.reduceLeDiff, Nat.reduceAdd, Nat.reduceMul, Nat.reduceSub, Nat.reduceBEq, ↓reduceIte, bne_self_eq_false, Bool.and_false, Bool.false_and, Bool.true_or, Bool.false_or, h1])
        | (refine tr_drawC (id := 6) follows 10000 (by kernel_rfl) ?_; simp only [go_sem, List.getElem?_toArray, str_beq, reduceCtorEq, Nat.reduceEqDiff, Nat.reduceLT, Nat.reduceLeDiff, Nat.reduceAdd, Nat.reduceMul, Nat.reduceSub, Nat.reduceBEq, ↓reduceIte, bne_self_eq_false, Bool.and_false, Bool.false_and, Bool.true_or, Bool.false_or, h1])
        | refine k_of (by assumption) ?_
        | refine tr_block ?_
        | refine tr_scope ?_
        | (refine tr_skip ?_; try simp only [ex_seq, ex_block])
        | (refine tr_label ?_; try simp only [ex_seq, ex_block])
        | (refine tr_exit ?_; try simp only [ex_seq_exit, ex_block_exit, Nat.reduceEqDiff, if_true, if_false, ex_seq, ex_block, reduceCtorEq, ↓reduceIte])
        | (refine tr_ret ?_; try simp only [ex_seq_ret, ex_block_ret]))
    refine tr_cond rfl (fun ht => ?_) (fun hf => ?_)
    · repeat (first
          | refine tr_seq_k fun _ _ => ?_
          | (refine tr_region ?_; simp only [go_sem, List.getElem?_toArray, str_beq, reduceCtorEq, Nat.reduceEqDiff, Nat.reduceLT, Nat.reduceLeDiff, Nat.reduceAdd, Nat.reduceMul, Nat.reduceSub, Nat.reduceBEq, ↓reduceIte, bne_self_eq_false, Bool.and_false, Bool.false_and, Bool.true_or, Bool.false_or])
          | (refine tr_drawC (id := 6) follows 10000 (by kernel_rfl) ?_; simp only [go_sem, List.getElem?_toArray, str_beq, reduceCtorEq, Nat.reduceEqDiff, Nat.reduceLT, Nat.reduceLeDiff, Nat.reduceAdd, Nat.reduceMul, Nat.reduceSub, Nat.reduceBEq, ↓reduceIte, bne_self_eq_false, Bool.and_false, Bool.false_and, Bool.true_or, Bool.false_or])
          | refine k_of (by assumption) ?_
          | refine tr_block ?_
          | refine tr_scope ?_
          | (refine tr_skip ?_; try simp only [ex_seq, ex_block])
          | (refine tr_label ?_; try simp only [ex_seq, ex_block])
          | (refine tr_exit ?_; try simp only [ex_seq_exit, ex_block_exit, Nat.reduceEqDiff, if_true, if_false, ex_seq, ex_block, reduceCtorEq, ↓reduceIte])
          | (refine tr_ret ?_; try simp only [ex_seq_ret, ex_block_ret]))
      refine (hQ _ _ [bA false] ?_ (fun m => ?_)).2 <;> simp only [go_sem, List.getElem?_toArray, str_beq, reduceCtorEq, Nat.reduceEqDiff, Nat.reduceLT, Nat.reduceLeDiff, Nat.reduceAdd, Nat.reduceMul, Nat.reduceSub, Nat.reduceBEq, ↓reduceIte, bne_self_eq_false, Bool.and_false, Bool.false_and, Bool.true_or, Bool.false_or, Try.f27, hr]
    · cases hf
  | true =>
    have hlen : a.length = b.length := by
      have := of_decide_eq_true h1
      omega
    refine does_of' Try.func27 rfl (by kernel_rfl) rfl Try.ntmps27 rfl rfl fun Q hQ => ?_
    repeat (first
        | refine tr_seq_k fun _ _ => ?_
        | (refine tr_region ?_; simp only [go_sem, List.getElem?_toArray, str_beq, reduceCtorEq, Nat.reduceEqDiff, Nat.reduceLT, Nat.reduceLeDiff, Nat.reduceAdd, Nat.reduceMul, Nat.reduceSub, Nat.reduceBEq, ↓reduceIte, bne_self_eq_false, Bool.and_false, Bool.false_and, Bool.true_or, Bool.false_or, h1])
        | (refine tr_drawC (id := 6) follows 10000 (by kernel_rfl) ?_; simp only [go_sem, List.getElem?_toArray, str_beq, reduceCtorEq, Nat.reduceEqDiff, Nat.reduceLT, Nat.reduceLeDiff, Nat.reduceAdd, Nat.reduceMul, Nat.reduceSub, Nat.reduceBEq, ↓reduceIte, bne_self_eq_false, Bool.and_false, Bool.false_and, Bool.true_or, Bool.false_or, h1])
        | refine k_of (by assumption) ?_
        | refine tr_block ?_
        | refine tr_scope ?_
        | (refine tr_skip ?_; try simp only [ex_seq, ex_block])
        | (refine tr_label ?_; try simp only [ex_seq, ex_block])
        | (refine tr_exit ?_; try simp only [ex_seq_exit, ex_block_exit, Nat.reduceEqDiff, if_true, if_false, ex_seq, ex_block, reduceCtorEq, ↓reduceIte])
        | (refine tr_ret ?_; try simp only [ex_seq_ret, ex_block_ret]))
    refine tr_cond rfl (fun ht => ?_) (fun hf => ?_)
    · cases ht
    · repeat (first
          | refine tr_seq_k fun _ _ => ?_
          | (refine tr_region ?_; simp only [go_sem, List.getElem?_toArray, str_beq, reduceCtorEq, Nat.reduceEqDiff, Nat.reduceLT, Nat.reduceLeDiff, Nat.reduceAdd, Nat.reduceMul, Nat.reduceSub, Nat.reduceBEq, ↓reduceIte, bne_self_eq_false, Bool.and_false, Bool.false_and, Bool.true_or, Bool.false_or])
          | (refine tr_drawC (id := 6) follows 10000 (by kernel_rfl) ?_; simp only [go_sem, List.getElem?_toArray, str_beq, reduceCtorEq, Nat.reduceEqDiff, Nat.reduceLT, Nat.reduceLeDiff, Nat.reduceAdd, Nat.reduceMul, Nat.reduceSub, Nat.reduceBEq, ↓reduceIte, bne_self_eq_false, Bool.and_false, Bool.false_and, Bool.true_or, Bool.false_or])
          | refine k_of (by assumption) ?_
          | refine tr_block ?_
          | refine tr_scope ?_
          | (refine tr_skip ?_; try simp only [ex_seq, ex_block])
          | (refine tr_label ?_; try simp only [ex_seq, ex_block])
          | (refine tr_exit ?_; try simp only [ex_seq_exit, ex_block_exit, Nat.reduceEqDiff, if_true, if_false, ex_seq, ex_block, reduceCtorEq, ↓reduceIte])
          | (refine tr_ret ?_; try simp only [ex_seq_ret, ex_block_ret]))
      refine tr_loop_k (σ := Nat) (fun k => [(0, slR exC ex a), (1, slR exC ex2 b), (5, iA k)]) (fun _ => ⟨[], []⟩)
        (fun k => k ≤ a.length ∧ a.take k = b.take k) (fun k => a.length - k) 0 ⟨Nat.zero_le _, rfl⟩ ⟨rfl, rfl, rfl, trivial⟩ rfl ?_
      rintro k ⟨hk, hp⟩ K hK
      repeat (first
          | refine tr_seq_k fun _ _ => ?_
          | (refine tr_region ?_; simp only [go_sem, List.getElem?_toArray, str_beq, reduceCtorEq, Nat.reduceEqDiff, Nat.reduceLT, Nat.reduceLeDiff, Nat.reduceAdd, Nat.reduceMul, Nat.reduceSub, Nat.reduceBEq, ↓reduceIte, bne_self_eq_false, Bool.and_false, Bool.false_and, Bool.true_or, Bool.false_or])
          | (refine tr_drawC (id := 6) follows 10000 (by kernel_rfl) ?_; simp only [go_sem, List.getElem?_toArray, str_beq, reduceCtorEq, Nat.reduceEqDiff, Nat.reduceLT, Nat.reduceLeDiff, Nat.reduceAdd, Nat.reduceMul, Nat.reduceSub, Nat.reduceBEq, ↓reduceIte, bne_self_eq_false, Bool.and_false, Bool.false_and, Bool.true_or, Bool.false_or])
          | refine k_of (by assumption) ?_
          | refine tr_block ?_
          | refine tr_scope ?_
          | (refine tr_skip ?_; try simp only [ex_seq, ex_block])
          | (refine tr_label ?_; try simp only [ex_seq, ex_block])
          | (refine tr_exit ?_; try simp only [ex_seq_exit, ex_block_exit, Nat.reduceEqDiff, if_true, if_false, ex_seq, ex_block, reduceCtorEq, ↓reduceIte])
          | (refine tr_ret ?_; try simp only [ex_seq_ret, ex_block_ret]))
      refine tr_cond rfl (fun ht => ?_) (fun hf => ?_)
      · have hlt : k < a.length := by simpa using ht
        have hlb : k < b.length := by omega
        have ws := wrap_succ (show k ≤ 1000000000 by omega)
        have nB := fun x y => bin_neX x y a[k] b[k]
        simp only [pv_bind] at nB
        cases h2 : decide (a[k] = b[k]) with
        | false =>
          rw [h2] at nB
          have hr : decide (a = b) = false := decide_eq_false fun e => of_decide_eq_false h2 (by subst e; rfl)
          repeat (first
              | refine tr_seq_k fun _ _ => ?_
              | (refine tr_region ?_; simp only [go_sem, List.getElem?_toArray, str_beq, reduceCtorEq, Nat.reduceEqDiff, Nat.reduceLT, Nat.reduceLeDiff, Nat.reduceAdd, Nat.reduceMul, Nat.reduceSub, Nat.reduceBEq, ↓reduceIte, bne_self_eq_false, Bool.and_false, Bool.false_and, Bool.true_or, Bool.false_or, idxX hlt, idxX hlb, nB])
              | (refine tr_drawC (id := 6) follows 10000 (by kernel_rfl) ?_; simp only [go_sem, List.getElem?_toArray, str_beq, reduceCtorEq, Nat.reduceEqDiff, Nat.reduceLT, Nat.reduceLeDiff, Nat.reduceAdd, Nat.reduceMul, Nat.reduceSub, Nat.reduceBEq, ↓reduceIte, bne_self_eq_false, Bool.and_false, Bool.false_and, Bool.true_or, Bool.false_or, idxX hlt, idxX hlb, nB])
              | refine k_of (by assumption) ?_
              | refine tr_block ?_
              | refine tr_scope ?_
              | (refine tr_skip ?_; try simp only [ex_seq, ex_block])
              | (refine tr_label ?_; try simp only [ex_seq, ex_block])
              | (refine tr_exit ?_; try simp only [ex_seq_exit, ex_block_exit, Nat.reduceEqDiff, if_true, if_false, ex_seq, ex_block, reduceCtorEq, ↓reduceIte])
              | (refine tr_ret ?_; try simp only [ex_seq_ret, ex_block_ret]))
          refine tr_cond rfl (fun ht => ?_) (fun hf => ?_)
          · repeat (first
                | refine tr_seq_k fun _ _ => ?_
                | (refine tr_region ?_; simp only [go_sem, List.getElem?_toArray, str_beq, reduceCtorEq, Nat.reduceEqDiff, Nat.reduceLT, Nat.reduceLeDiff, Nat.reduceAdd, Nat.reduceMul, Nat.reduceSub, Nat.reduceBEq, ↓reduceIte, bne_self_eq_false, Bool.and_false, Bool.false_and, Bool.true_or, Bool.false_or])
                | (refine tr_drawC (id := 6) follows 10000 (by kernel_rfl) ?_; simp only [go_sem, List.getElem?_toArray, str_beq, reduceCtorEq, Nat.reduceEqDiff, Nat.reduceLT, Nat.reduceLeDiff, Nat.reduceAdd, Nat.reduceMul, Nat.reduceSub, Nat.reduceBEq, ↓reduceIte, bne_self_eq_false, Bool.and_false, Bool.false_and, Bool.true_or, Bool.false_or])
                | refine k_of (by assumption) ?_
                | refine tr_block ?_
                | refine tr_scope ?_
                | (refine tr_skip ?_; try simp only [ex_seq, ex_block])
                | (refine tr_label ?_; try simp only [ex_seq, ex_block])
                | (refine tr_exit ?_; try simp only [ex_seq_exit, ex_block_exit, Nat.reduceEqDiff, if_true, if_false, ex_seq, ex_block, reduceCtorEq, ↓reduceIte])
                | (refine tr_ret ?_; try simp only [ex_seq_ret, ex_block_ret]))
            refine (hQ _ _ [bA false] ?_ (fun m => ?_)).2 <;> simp only [go_sem, List.getElem?_toArray, str_beq, reduceCtorEq, Nat.reduceEqDiff, Nat.reduceLT, Nat.reduceLeDiff, Nat.reduceAdd, Nat.reduceMul, Nat.reduceSub, Nat.reduceBEq, ↓reduceIte, bne_self_eq_false, Bool.and_false, Bool.false_and, Bool.true_or, Bool.false_or, Try.f27, hr]
          · cases hf
        | true =>
          rw [h2] at nB
          repeat (first
              | refine tr_seq_k fun _ _ => ?_
              | (refine tr_region ?_; simp only [go_sem, List.getElem?_toArray, str_beq, reduceCtorEq, Nat.reduceEqDiff, Nat.reduceLT, Nat.reduceLeDiff, Nat.reduceAdd, Nat.reduceMul, Nat.reduceSub, Nat.reduceBEq, ↓reduceIte, bne_self_eq_false, Bool.and_false, Bool.false_and, Bool.true_or, Bool.false_or, idxX hlt, idxX hlb, nB])
              | (refine tr_drawC (id := 6) follows 10000 (by kernel_rfl) ?_; simp only [go_sem, List.getElem?_toArray, str_beq, reduceCtorEq, Nat.reduceEqDiff, Nat.reduceLT, Nat.reduceLeDiff, Nat.reduceAdd, Nat.reduceMul, Nat.reduceSub, Nat.reduceBEq, ↓reduceIte, bne_self_eq_false, Bool.and_false, Bool.false_and, Bool.true_or, Bool.false_or, idxX hlt, idxX hlb, nB])
              | refine k_of (by assumption) ?_
              | refine tr_block ?_
              | refine tr_scope ?_
              | (refine tr_skip ?_; try simp only [ex_seq, ex_block])
              | (refine tr_label ?_; try simp only [ex_seq, ex_block])
              | (refine tr_exit ?_; try simp only [ex_seq_exit, ex_block_exit, Nat.reduceEqDiff, if_true, if_false, ex_seq, ex_block, reduceCtorEq, ↓reduceIte])
              | (refine tr_ret ?_; try simp only [ex_seq_ret, ex_block_ret]))
          refine tr_cond rfl (fun ht => ?_) (fun hf => ?_)
          · cases ht
          · repeat (first
                | refine tr_seq_k fun _ _ => ?_
                | (refine tr_region ?_; simp only [go_sem, List.getElem?_toArray, str_beq, reduceCtorEq, Nat.reduceEqDiff, Nat.reduceLT, Nat.reduceLeDiff, Nat.reduceAdd, Nat.reduceMul, Nat.reduceSub, Nat.reduceBEq, ↓reduceIte, bne_self_eq_false, Bool.and_false, Bool.false_and, Bool.true_or, Bool.false_or, ws])
                | (refine tr_drawC (id := 6) follows 10000 (by kernel_rfl) ?_; simp only [go_sem, List.getElem?_toArray, str_beq, reduceCtorEq, Nat.reduceEqDiff, Nat.reduceLT, Nat.reduceLeDiff, Nat.reduceAdd, Nat.reduceMul, Nat.reduceSub, Nat.reduceBEq, ↓reduceIte, bne_self_eq_false, Bool.and_false, Bool.false_and, Bool.true_or, Bool.false_or, ws])
                | refine k_of (by assumption) ?_
                | refine tr_block ?_
                | refine tr_scope ?_
                | (refine tr_skip ?_; try simp only [ex_seq, ex_block])
                | (refine tr_label ?_; try simp only [ex_seq, ex_block])
                | (refine tr_exit ?_; try simp only [ex_seq_exit, ex_block_exit, Nat.reduceEqDiff, if_true, if_false, ex_seq, ex_block, reduceCtorEq, ↓reduceIte])
                | (refine tr_ret ?_; try simp only [ex_seq_ret, ex_block_ret]))
            exact hK (k + 1) _ _ ⟨hlt, take_next_eq hlt hlb hp (of_decide_eq_true h2)⟩ ⟨⟨rfl, rfl, rfl, trivial⟩, Keep.refl _, rfl, rfl, Nat.le_refl _, Nat.le_refl _⟩ (by omega)
      · have hkl : k = a.length := by
          have := of_decide_eq_false hf
          omega
        have hr : decide (a = b) = true := by
          rw [hkl, List.take_length, hlen, List.take_length] at hp
          exact decide_eq_true hp
        repeat (first
            | refine tr_seq_k fun _ _ => ?_
            | (refine tr_region ?_; simp only [go_sem, List.getElem?_toArray, str_beq, reduceCtorEq, Nat.reduceEqDiff, Nat.reduceLT, Nat.reduceLeDiff, Nat.reduceAdd, Nat.reduceMul, Nat.reduceSub, Nat.reduceBEq, ↓reduceIte, bne_self_eq_false, Bool.and_false, Bool.false_and, Bool.true_or, Bool.false_or])
            | (refine tr_drawC (id := 6) follows 10000 (by kernel_rfl) ?_; simp only [go_sem, List.getElem?_toArray, str_beq, reduceCtorEq, Nat.reduceEqDiff, Nat.reduceLT, Nat.reduceLeDiff, Nat.reduceAdd, Nat.reduceMul, Nat.reduceSub, Nat.reduceBEq, ↓reduceIte, bne_self_eq_false, Bool.and_false, Bool.false_and, Bool.true_or, Bool.false_or])
            | refine k_of (by assumption) ?_
            | refine tr_block ?_
            | refine tr_scope ?_
            | (refine tr_skip ?_; try simp only [ex_seq, ex_block])
            | (refine tr_label ?_; try simp only [ex_seq, ex_block])
            | (refine tr_exit ?_; try simp only [ex_seq_exit, ex_block_exit, Nat.reduceEqDiff, if_true, if_false, ex_seq, ex_block, reduceCtorEq, ↓reduceIte])
            | (refine tr_ret ?_; try simp only [ex_seq_ret, ex_block_ret]))
        refine (hQ _ _ [bA true] ?_ (fun m => ?_)).2 <;> simp only [go_sem, List.getElem?_toArray, str_beq, reduceCtorEq, Nat.reduceEqDiff, Nat.reduceLT, Nat.reduceLeDiff, Nat.reduceAdd, Nat.reduceMul, Nat.reduceSub, Nat.reduceBEq, ↓reduceIte, bne_self_eq_false, Bool.and_false, Bool.false_and, Bool.true_or, Bool.false_or, Try.f27, hr]

/-- A call. -/
structure Ac where
  kind : Int
  text : ByteArray
  n : Int
def acC (a : Ac) : List CV := [.v (.int .i64 a.kind), .v (.string a.text), .v (.int .i64 a.n)]
attribute [go_sem] acC
theorem idxA {ex : Bool} {l : List Ac} {k : Nat} (h : k < l.length) : aIndexAddr Try.prog 41 (slR acC ex l) (.c (.v (.int .i64 (k : Int)))) = some (.cptr (acC l[k] ++ (l.drop (k + 1)).flatMap acC)) :=
  idx_R acC 3 (fun _ => rfl) Try.underlying41 sz46 (by decide) h
def lightS (l : List Ac) : Bool := l.all (fun a => decide (a.text.size ≤ 300)) && decide (l.length ≤ 80)
theorem light_does (l : List Ac) (ex : Bool) (hl : l.length ≤ maxLen) : Does Try.prog 18 [slR acC ex l] (fun m => (bA (lightS l), m)) := by
  refine does_of' Try.func18 rfl (by kernel_rfl) rfl Try.ntmps18 rfl rfl fun Q hQ => ?_
  repeat (first
      | refine tr_seq_k fun _ _ => ?_
      | (refine tr_region ?_; simp only [go_sem, List.getElem?_toArray, str_beq, reduceCtorEq, Nat.reduceEqDiff, Nat.reduceLT, Nat.reduceLeDiff, Nat.reduceAdd, Nat.reduceMul, Nat.reduceSub, Nat.reduceBEq, ↓reduceIte, bne_self_eq_false, Bool.and_false, Bool.false_and, Bool.true_or, Bool.false_or])
      | refine k_of (by assumption) ?_
      | refine tr_block ?_
      | refine tr_scope ?_
      | (refine tr_skip ?_; try simp only [ex_seq, ex_block])
      | (refine tr_label ?_; try simp only [ex_seq, ex_block])
      | (refine tr_exit ?_; try simp only [ex_seq_exit, ex_block_exit, Nat.reduceEqDiff, if_true, if_false, ex_seq, ex_block, reduceCtorEq, ↓reduceIte])
      | (refine tr_ret ?_; try simp only [ex_seq_ret, ex_block_ret]))
  refine tr_loop_k (σ := Nat) (fun k => [(0, slR acC ex l), (3, iA k)]) (fun _ => ⟨[], []⟩)
    (fun k => k ≤ l.length ∧ ∀ j (hj : j < l.length), j < k → l[j].text.size ≤ 300) (fun k => l.length - k) 0 ⟨Nat.zero_le _, fun j _ h => absurd h (Nat.not_lt_zero _)⟩ ⟨rfl, rfl, trivial⟩ rfl ?_
  rintro k ⟨hk, hp⟩ K hK
  repeat (first
      | refine tr_seq_k fun _ _ => ?_
      | (refine tr_region ?_; simp only [go_sem, List.getElem?_toArray, str_beq, reduceCtorEq, Nat.reduceEqDiff, Nat.reduceLT, Nat.reduceLeDiff, Nat.reduceAdd, Nat.reduceMul, Nat.reduceSub, Nat.reduceBEq, ↓reduceIte, bne_self_eq_false, Bool.and_false, Bool.false_and, Bool.true_or, Bool.false_or])
      | refine k_of (by assumption) ?_
      | refine tr_block ?_
      | refine tr_scope ?_
      | (refine tr_skip ?_; try simp only [ex_seq, ex_block])
      | (refine tr_label ?_; try simp only [ex_seq, ex_block])
      | (refine tr_exit ?_; try simp only [ex_seq_exit, ex_block_exit, Nat.reduceEqDiff, if_true, if_false, ex_seq, ex_block, reduceCtorEq, ↓reduceIte])
      | (refine tr_ret ?_; try simp only [ex_seq_ret, ex_block_ret]))
  refine tr_cond rfl (fun ht => ?_) (fun hf => ?_)
  · have hlt : k < l.length := by simpa using ht
    have ws : IntKind.i64.wrap ((k : Int) + 1) = ((k + 1 : Nat) : Int) := by
      unfold maxLen at hl
      rw [wrap_in (by omega)]
      rfl
    cases h2 : decide ((300 : Int) < (l[k].text.size : Nat)) with
    | true =>
      have hr : lightS l = false := by
        unfold lightS
        rw [Bool.and_eq_false_iff]
        left
        rw [List.all_eq_false]
        refine ⟨l[k], List.getElem_mem hlt, ?_⟩
        have := of_decide_eq_true h2
        simp only [decide_eq_true_eq]
        omega
      repeat (first
          | refine tr_seq_k fun _ _ => ?_
          | (refine tr_region ?_; simp only [go_sem, List.getElem?_toArray, str_beq, reduceCtorEq, Nat.reduceEqDiff, Nat.reduceLT, Nat.reduceLeDiff, Nat.reduceAdd, Nat.reduceMul, Nat.reduceSub, Nat.reduceBEq, ↓reduceIte, bne_self_eq_false, Bool.and_false, Bool.false_and, Bool.true_or, Bool.false_or, idxA hlt, h2])
          | refine k_of (by assumption) ?_
          | refine tr_block ?_
          | refine tr_scope ?_
          | (refine tr_skip ?_; try simp only [ex_seq, ex_block])
          | (refine tr_label ?_; try simp only [ex_seq, ex_block])
          | (refine tr_exit ?_; try simp only [ex_seq_exit, ex_block_exit, Nat.reduceEqDiff, if_true, if_false, ex_seq, ex_block, reduceCtorEq, ↓reduceIte])
          | (refine tr_ret ?_; try simp only [ex_seq_ret, ex_block_ret]))
      refine tr_cond rfl (fun ht => ?_) (fun hf => ?_)
      · repeat (first
            | refine tr_seq_k fun _ _ => ?_
            | (refine tr_region ?_; simp only [go_sem, List.getElem?_toArray, str_beq, reduceCtorEq, Nat.reduceEqDiff, Nat.reduceLT, Nat.reduceLeDiff, Nat.reduceAdd, Nat.reduceMul, Nat.reduceSub, Nat.reduceBEq, ↓reduceIte, bne_self_eq_false, Bool.and_false, Bool.false_and, Bool.true_or, Bool.false_or])
            | refine k_of (by assumption) ?_
            | refine tr_block ?_
            | refine tr_scope ?_
            | (refine tr_skip ?_; try simp only [ex_seq, ex_block])
            | (refine tr_label ?_; try simp only [ex_seq, ex_block])
            | (refine tr_exit ?_; try simp only [ex_seq_exit, ex_block_exit, Nat.reduceEqDiff, if_true, if_false, ex_seq, ex_block, reduceCtorEq, ↓reduceIte])
            | (refine tr_ret ?_; try simp only [ex_seq_ret, ex_block_ret]))
        refine (hQ _ _ [bA false] ?_ (fun m => ?_)).2 <;> simp only [go_sem, List.getElem?_toArray, str_beq, reduceCtorEq, Nat.reduceEqDiff, Nat.reduceLT, Nat.reduceLeDiff, Nat.reduceAdd, Nat.reduceMul, Nat.reduceSub, Nat.reduceBEq, ↓reduceIte, bne_self_eq_false, Bool.and_false, Bool.false_and, Bool.true_or, Bool.false_or, Try.f18, hr]
      · cases hf
    | false =>
      have h2' := of_decide_eq_false h2
      repeat (first
          | refine tr_seq_k fun _ _ => ?_
          | (refine tr_region ?_; simp only [go_sem, List.getElem?_toArray, str_beq, reduceCtorEq, Nat.reduceEqDiff, Nat.reduceLT, Nat.reduceLeDiff, Nat.reduceAdd, Nat.reduceMul, Nat.reduceSub, Nat.reduceBEq, ↓reduceIte, bne_self_eq_false, Bool.and_false, Bool.false_and, Bool.true_or, Bool.false_or, idxA hlt, h2])
          | refine k_of (by assumption) ?_
          | refine tr_block ?_
          | refine tr_scope ?_
          | (refine tr_skip ?_; try simp only [ex_seq, ex_block])
          | (refine tr_label ?_; try simp only [ex_seq, ex_block])
          | (refine tr_exit ?_; try simp only [ex_seq_exit, ex_block_exit, Nat.reduceEqDiff, if_true, if_false, ex_seq, ex_block, reduceCtorEq, ↓reduceIte])
          | (refine tr_ret ?_; try simp only [ex_seq_ret, ex_block_ret]))
      refine tr_cond rfl (fun ht => ?_) (fun hf => ?_)
      · cases ht
      · repeat (first
            | refine tr_seq_k fun _ _ => ?_
            | (refine tr_region ?_; simp only [go_sem, List.getElem?_toArray, str_beq, reduceCtorEq, Nat.reduceEqDiff, Nat.reduceLT, Nat.reduceLeDiff, Nat.reduceAdd, Nat.reduceMul, Nat.reduceSub, Nat.reduceBEq, ↓reduceIte, bne_self_eq_false, Bool.and_false, Bool.false_and, Bool.true_or, Bool.false_or, ws])
            | refine k_of (by assumption) ?_
            | refine tr_block ?_
            | refine tr_scope ?_
            | (refine tr_skip ?_; try simp only [ex_seq, ex_block])
            | (refine tr_label ?_; try simp only [ex_seq, ex_block])
            | (refine tr_exit ?_; try simp only [ex_seq_exit, ex_block_exit, Nat.reduceEqDiff, if_true, if_false, ex_seq, ex_block, reduceCtorEq, ↓reduceIte])
            | (refine tr_ret ?_; try simp only [ex_seq_ret, ex_block_ret]))
        exact hK (k + 1) _ _ ⟨hlt, fun j hj hjk => by
          rcases Nat.lt_succ_iff_lt_or_eq.1 hjk with h | rfl
          · exact hp j hj h
          · omega⟩ ⟨⟨rfl, rfl, trivial⟩, Keep.refl _, rfl, rfl, Nat.le_refl _, Nat.le_refl _⟩ (by omega)
  · have hkl : k = l.length := by
      have := of_decide_eq_false hf
      omega
    have hr : lightS l = decide ((l.length : Int) ≤ 80) := by
      unfold lightS
      have : l.all (fun a => decide (a.text.size ≤ 300)) = true := by
        rw [List.all_eq_true]
        intro a ha
        obtain ⟨j, hj, rfl⟩ := List.mem_iff_getElem.1 ha
        exact decide_eq_true (hp j hj (by omega))
      rw [this, Bool.true_and]
      exact decide_eq_decide.2 (by omega)
    repeat (first
        | refine tr_seq_k fun _ _ => ?_
        | (refine tr_region ?_; simp only [go_sem, List.getElem?_toArray, str_beq, reduceCtorEq, Nat.reduceEqDiff, Nat.reduceLT, Nat.reduceLeDiff, Nat.reduceAdd, Nat.reduceMul, Nat.reduceSub, Nat.reduceBEq, ↓reduceIte, bne_self_eq_false, Bool.and_false, Bool.false_and, Bool.true_or, Bool.false_or])
        | refine k_of (by assumption) ?_
        | refine tr_block ?_
        | refine tr_scope ?_
        | (refine tr_skip ?_; try simp only [ex_seq, ex_block])
        | (refine tr_label ?_; try simp only [ex_seq, ex_block])
        | (refine tr_exit ?_; try simp only [ex_seq_exit, ex_block_exit, Nat.reduceEqDiff, if_true, if_false, ex_seq, ex_block, reduceCtorEq, ↓reduceIte])
        | (refine tr_ret ?_; try simp only [ex_seq_ret, ex_block_ret]))
    refine (hQ _ _ [bA (decide ((l.length : Int) ≤ 80))] ?_ (fun m => ?_)).2 <;> simp only [go_sem, List.getElem?_toArray, str_beq, reduceCtorEq, Nat.reduceEqDiff, Nat.reduceLT, Nat.reduceLeDiff, Nat.reduceAdd, Nat.reduceMul, Nat.reduceSub, Nat.reduceBEq, ↓reduceIte, bne_self_eq_false, Bool.and_false, Bool.false_and, Bool.true_or, Bool.false_or, Try.f18, hr]
end Go.Proofs.Ytlhlcfijpdknfaa

/-
  Chapter 2: InternScript.
-/
set_option linter.unusedSimpArgs false
set_option linter.unusedVariables false
namespace Go.Proofs.Ytlhlcfijpdknfaa
open Go.Vs Go.Vs.Ab Go.Vs.Hp Go.Vs.Tb
set_option maxRecDepth 100000
set_option maxHeartbeats 4000000

theorem RowAt.slt {m : Mm} {T : Type} {enc : T → List CV} {size : Nat} {c : AV} {l : List T} {s : List Nat} (h : RowAt m enc size c l s) : ∀ i ∈ s, i < m.hp.length := by
  rcases h with ⟨_, _, rfl⟩ | ⟨b, L, _, rfl, h3, _⟩
  · intro i hi; cases hi
  · intro i hi
    rw [List.mem_singleton] at hi
    subst hi
    exact (List.getElem?_eq_some_iff.1 h3).1
theorem TabM.slt {m : Mm} {b : Nat} {E : List Ent} {S : List Nat} (h : TabM m b E S) : ∀ i ∈ S, i < m.hp.length := by
  obtain ⟨c1, c2, mb, F, N, s1, s2, hb, hF, hE, hN, hI, hS, hnd⟩ := h
  subst hS
  intro i hi
  simp only [List.mem_cons, List.mem_append] at hi
  rcases hi with rfl | rfl | hi | hi
  · exact (List.getElem?_eq_some_iff.1 hb).1
  · exact (List.getElem?_eq_some_iff.1 hN).1
  · exact hF.slt i hi
  · exact hE.slt i hi
theorem RefM.slt {m : Mm} {b : Nat} {E : List Ent} {S : List Nat} (h : RefM m b E S) : ∀ i ∈ S, i < m.hp.length := by
  obtain ⟨c1, c2, s1, s2, hb, hF, hE, hS, hnd⟩ := h
  subst hS
  intro i hi
  simp only [List.mem_cons, List.mem_append] at hi
  rcases hi with rfl | hi | hi
  · exact (List.getElem?_eq_some_iff.1 hb).1
  · exact hF.slt i hi
  · exact hE.slt i hi
theorem TabM.used {m : Mm} {b : Nat} {E : List Ent} {S : List Nat} (h : TabM m b E S) : ∀ e ∈ E, e.1 ≠ emp → 0 < e.2 := by
  obtain ⟨c1, c2, mb, F, N, s1, s2, hb, hF, hE, hN, hI, hS, hnd⟩ := h
  intro e he hne
  obtain ⟨i, hi, rfl⟩ := List.mem_iff_getElem.1 he
  have := hI.zero i E[i] (List.getElem?_eq_getElem hi)
  have : (E[i]).2 ≠ 0 := fun e => hne (this.1 e)
  omega
theorem Kp.addB {m : Mm} (hW : Wf m) {nb : Blk} (hl : lows (m.hp.length + 1) m.hw.length nb.cs = true) : Kp m ⟨m.hp ++ [nb], m.hw⟩ [] [m.hp.length] :=
  ⟨rfl, by simp, fun i blk _ h => by
    have := (List.getElem?_eq_some_iff.1 h).1
    show (m.hp ++ [nb])[i]? = _
    rw [List.getElem?_append_left this]
    exact h, fun i h => Or.inr (by simp at h; omega), hW.add hl⟩

/-- Entries that may be met after u calls. -/
structure Fine (E : List Ent) (u : Nat) : Prop where
  len : E.length ≤ u
  use : ∀ e ∈ E, e.2 ≤ u
  size : ∀ e ∈ E, e.1.size ≤ 255
theorem mem_set_or {T : Type} {l : List T} {k : Nat} {x e : T} (h : e ∈ l.set k x) : e = x ∨ e ∈ l := by
  rcases List.mem_or_eq_of_mem_set h with h | h
  · exact Or.inr h
  · exact Or.inl h
theorem Fine.mono {E : List Ent} {u v : Nat} (h : Fine E u) (hv : u ≤ v) : Fine E v := ⟨Nat.le_trans h.len hv, fun e he => Nat.le_trans (h.use e he) hv, h.size⟩
theorem Fine.take {E : List Ent} {u : Nat} (h : Fine E u) (s : ByteArray) : Fine (takeS E s).2 (u + 1) := by
  have h1 := h.mono (Nat.le_succ u)
  unfold takeS
  by_cases hs : s.size < 1 ∨ 255 < s.size
  · rw [if_pos hs]; exact h1
  · rw [if_neg hs]
    have hs2 : s.size ≤ 255 := by omega
    cases hf : findS E s with
    | some n =>
      obtain ⟨hse, hn, _⟩ := findS_some hf
      have hgd : (E.getD n (emp, 0)).2 ≤ u := by
        rw [getD_at hn]
        exact h.use _ (List.getElem_mem hn)
      refine ⟨by show (E.set _ _).length ≤ _; rw [List.length_set]; exact h1.len, fun e he => ?_, fun e he => ?_⟩
      · rcases mem_set_or he with rfl | he
        · show _ + 1 ≤ _; omega
        · exact h1.use e he
      · rcases mem_set_or he with rfl | he
        · exact hs2
        · exact h.size e he
    | none =>
      dsimp only
      split
      · exact h1
      · have h01 : (1 : Nat) ≤ u + 1 := by omega
        dsimp only
        split
        · refine ⟨by rw [List.length_append]; have := h.len; simp; omega, fun e he => ?_, fun e he => ?_⟩
          · rcases List.mem_append.1 he with he | he
            · exact h1.use e he
            · rw [List.mem_singleton] at he; subst he; exact h01
          · rcases List.mem_append.1 he with he | he
            · exact h.size e he
            · rw [List.mem_singleton] at he; subst he; exact hs2
        · refine ⟨by rw [List.length_set]; exact h1.len, fun e he => ?_, fun e he => ?_⟩
          · rcases mem_set_or he with rfl | he
            · exact h01
            · exact h1.use e he
          · rcases mem_set_or he with rfl | he
            · exact hs2
            · exact h.size e he
theorem Fine.drop {E : List Ent} {u : Nat} (h : Fine E u) (n : Int) : Fine (dropS E n).2 (u + 1) := by
  have h1 := h.mono (Nat.le_succ u)
  unfold dropS
  split
  · rename_i hh
    obtain ⟨k, rfl, hk, _⟩ := hasS_spec hh
    rw [Int.toNat_natCast, getD_at hk]
    have hu := h.use _ (List.getElem_mem hk)
    have hz := h.size _ (List.getElem_mem hk)
    dsimp only
    split
    · refine ⟨by rw [List.length_set]; exact h1.len, fun e he => ?_, fun e he => ?_⟩
      · rcases mem_set_or he with rfl | he
        · exact Nat.zero_le _
        · exact h1.use e he
      · rcases mem_set_or he with rfl | he
        · exact Nat.zero_le _
        · exact h.size e he
    · refine ⟨by rw [List.length_set]; exact h1.len, fun e he => ?_, fun e he => ?_⟩
      · rcases mem_set_or he with rfl | he
        · show _ - 1 ≤ _; omega
        · exact h1.use e he
      · rcases mem_set_or he with rfl | he
        · exact hz
        · exact h.size e he
  · exact h1

/-- Both tables in memory. -/
structure Two (m : Mm) (bt br : Nat) (E : List Ent) (S1 S2 : List Nat) : Prop where
  tab : TabM m bt E S1
  ref : RefM m br E S2
  dis : ∀ i ∈ S1, i ∉ S2
  wf : Wf m
theorem Two.add {m : Mm} {bt br : Nat} {E : List Ent} {S1 S2 : List Nat} (h : Two m bt br E S1 S2) {nb : Blk} (hl : lows (m.hp.length + 1) m.hw.length nb.cs = true) : Two ⟨m.hp ++ [nb], m.hw⟩ bt br E S1 S2 :=
  have k := Kp.addB h.wf hl
  ⟨h.tab.keep k (fun _ _ h => by cases h), h.ref.keep k (fun _ _ h => by cases h), h.dis, k.wf⟩
theorem Two.next {m m2 m3 : Mm} {bt br : Nat} {E E2 : List Ent} {S1 S2 S1' S2' : List Nat} (h : Two m bt br E S1 S2) (t2 : TabM m2 bt E2 S1') (k2 : Kp m m2 S1 S1') (r3 : RefM m3 br E2 S2') (k3 : Kp m2 m3 S2 S2') : Two m3 bt br E2 S1' S2' := by
  have d : ∀ i ∈ S1', i ∉ S2 := fun i hi h2 => by
    rcases k2.new i hi with h3 | h3
    · exact h.dis i h3 h2
    · have := h.ref.slt i h2; omega
  refine ⟨t2.keep k3 d, r3, fun i hi h2 => ?_, k3.wf⟩
  rcases k3.new i h2 with h3 | h3
  · exact d i hi h3
  · have := t2.slt i hi; omega
theorem Two.start {mA mB : Mm} {bt br : Nat} {SA SB : List Nat} (tA : TabM mA bt [] SA) (rB : RefM mB br [] SB) (kB : Kp mA mB [] SB) : Two mB bt br [] SA SB :=
  ⟨tA.keep kB (fun _ _ h => by cases h), rB, fun i hi h2 => by
    rcases kB.new i h2 with h3 | h3
    · cases h3
    · have := tA.slt i hi; omega, kB.wf⟩
end Go.Proofs.Ytlhlcfijpdknfaa
