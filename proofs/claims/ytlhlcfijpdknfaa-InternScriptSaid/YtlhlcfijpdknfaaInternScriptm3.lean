/-
  Part 3 of the proof's own texts: general lemmas and contracts of functions, laid one behind the other.
-/
import Derived.Test.YtlhlcfijpdknfaaInternScriptm2
/-
  Chapter 2, the document's answer: a table in memory: New, has, Find, Len, Text, Uses.
-/
set_option linter.unusedSimpArgs false
set_option linter.unusedVariables false
namespace Go.Proofs.Ytlhlcfijpdknfaa
open Go.Vs Go.Vs.Ab Go.Vs.Hp Go.Vs.Tb
set_option maxRecDepth 100000
set_option maxHeartbeats 4000000

theorem st_hk (s : ByteArray) : (stC s).length = 1 := rfl
theorem st_get {L : List ByteArray} {i : Nat} (h : i < L.length) : (blC stC L)[i]? = some (sA L[i]) := by
  have := blC_get st_hk h (j := 0) (by decide)
  rw [Nat.mul_one, Nat.add_zero] at this
  exact this
theorem st_len (L : List ByteArray) : (blC stC L).length = L.length := by rw [len_blC st_hk, Nat.mul_one]
theorem st_set {L : List ByteArray} {i : Nat} (h : i < L.length) (x : ByteArray) : List.take i (blC stC L) ++ [sA x] ++ List.drop (i + 1) (blC stC L) = blC stC (L.set i x) := by
  have := set_blC (enc := stC) st_hk h x
  rw [Nat.mul_one] at this
  exact this
theorem st_idx {b n i : Nat} (h : i < n) : aIndexL Try.prog 54 (.lsl b 0 n 1) (iA i) = some (.ptr b i) := by
  have := idxL (P := Try.prog) (size := 1) Try.underlying54 sz9 (by decide) (b := b) (lo := 0) (ik := .i64) h
  simpa using this
theorem st_fit {L : List ByteArray} {i : Nat} (h : i < L.length) : (i + 1 ≤ (blC stC L).length) = True := eq_true (by rw [st_len]; omega)
theorem row_getG {T : Type} {enc : T → List CV} {size : Nat} {m : Mm} {c : AV} {l : List T} {s : List Nat} (h : RowAt m enc size c l s) {k : Nat} (hk : k < l.length) : ∃ h L, c = .lsl h 0 l.length size ∧ s = [h] ∧ m.hp[h]? = some ⟨false, blC enc L⟩ ∧ l = L.take l.length ∧ ∃ hkL : k < L.length, L[k] = l[k] := by
  rcases h with ⟨rfl, _⟩ | ⟨h, L, hc, hs, hL, hEL⟩
  · simp at hk
  · have hle : l.length ≤ L.length := by
      have := congrArg List.length hEL
      rw [List.length_take] at this
      omega
    exact ⟨h, L, hc, hs, hL, hEL, by omega, (take_get hEL hk _).symm⟩

def txE (E : List Ent) : List ByteArray := E.map Prod.fst
def usE (E : List Ent) : List Int := E.map fun e => (e.2 : Int)
theorem txE_len (E : List Ent) : (txE E).length = E.length := by simp [txE]
theorem usE_len (E : List Ent) : (usE E).length = E.length := by simp [usE]
theorem txE_get {E : List Ent} {k : Nat} (h : k < (txE E).length) : (txE E)[k] = (E[k]'(by rw [txE_len] at h; exact h)).1 := by simp [txE]
theorem usE_get {E : List Ent} {k : Nat} (h : k < (usE E).length) : (usE E)[k] = ((E[k]'(by rw [usE_len] at h; exact h)).2 : Int) := by simp [usE]

/-- The document's table in memory. -/
def RefM (m : Mm) (b : Nat) (E : List Ent) (S : List Nat) : Prop := ∃ c1 c2 s1 s2, m.hp[b]? = some ⟨false, [c1, c2]⟩ ∧ RowAt m stC 1 c1 (txE E) s1 ∧ RowAt m inC 1 c2 (usE E) s2 ∧ S = b :: (s1 ++ s2) ∧ S.Nodup
theorem RefM.keep {m m' : Mm} {S S' : List Nat} (k : Kp m m' S S') {b : Nat} {E : List Ent} {T : List Nat} (h : RefM m b E T) (hd : ∀ i ∈ T, i ∉ S) : RefM m' b E T := by
  obtain ⟨c1, c2, s1, s2, h1, h2, h3, h6, h7⟩ := h
  subst h6
  exact ⟨c1, c2, s1, s2, k.old b _ (hd b (by simp)) h1, h2.keep k (fun i hi => hd i (by simp [hi])), h3.keep k (fun i hi => hd i (by simp [hi])), rfl, h7⟩
theorem RefM.lt {m : Mm} {b : Nat} {E : List Ent} {T : List Nat} (h : RefM m b E T) : b < m.hp.length := by
  obtain ⟨c1, c2, s1, s2, h1, _⟩ := h
  exact (List.getElem?_eq_some_iff.1 h1).1

theorem rnew_gives {m : Mm} (hW : Wf m) : ∃ m' b S, GivesW Try.prog 19 [] m (.ptr b 0) m' ∧ RefM m' b [] S ∧ Kp m m' [] S := by
  refine ⟨⟨m.hp ++ [⟨false, [.c (.sl true 0 []), .c (.sl true 0 [])]⟩], m.hw⟩, m.hp.length, [m.hp.length], ?_, ?_, ?_⟩
  · refine givesW_of' Try.func19 rfl (by kernel_rfl) Try.ntmps19 rfl rfl fun Q hQ => ?_
    repeat (first
        | refine tr_seq_k fun _ _ => ?_
        | (refine tr_region ?_; simp only [go_sem, List.getElem?_toArray, str_beq, reduceCtorEq, Nat.reduceEqDiff, Nat.reduceLT, Nat.reduceLeDiff, Nat.reduceAdd, Nat.reduceMul, Nat.reduceSub, Nat.reduceBEq, ↓reduceIte, bne_self_eq_false, Bool.and_false, Bool.false_and, Bool.true_or, Bool.false_or])
        | refine k_of (by assumption) ?_
        | refine tr_block ?_
        | refine tr_scope ?_
        | (refine tr_skip ?_; try simp only [ex_seq, ex_block])
        | (refine tr_label ?_; try simp only [ex_seq, ex_block])
        | (refine tr_exit ?_; try simp only [ex_seq_exit, ex_block_exit, Nat.reduceEqDiff, if_true, if_false, ex_seq, ex_block, reduceCtorEq, ↓reduceIte])
        | (refine tr_ret ?_; try simp only [ex_seq_ret, ex_block_ret]))
    refine (hQ _ _ [.ptr m.hp.length 0] ?_ rfl rfl).2 <;> simp only [go_sem, List.getElem?_toArray, str_beq, reduceCtorEq, Nat.reduceEqDiff, Nat.reduceLT, Nat.reduceLeDiff, Nat.reduceAdd, Nat.reduceMul, Nat.reduceSub, Nat.reduceBEq, ↓reduceIte, bne_self_eq_false, Bool.and_false, Bool.false_and, Bool.true_or, Bool.false_or, Try.f19]
  · refine ⟨.c (.sl true 0 []), .c (.sl true 0 []), [], [], ?_, Or.inl ⟨rfl, rfl, rfl⟩, Or.inl ⟨rfl, rfl, rfl⟩, rfl, by simp⟩
    simp
  · refine ⟨rfl, by simp, fun i blk _ h => ?_, fun i h => Or.inr (by simp at h; omega), hW.add rfl⟩
    have := (List.getElem?_eq_some_iff.1 h).1
    rw [List.getElem?_append_left this]
    exact h

theorem rhas_gives {m : Mm} {b : Nat} {E : List Ent} {S : List Nat} (h : RefM m b E S) (n : Int) : GivesW Try.prog 36 [.ptr b 0, iA n] m (bA (hasS E n)) m := by
  obtain ⟨c1, c2, s1, s2, hb, hT, hU, hS, hnd⟩ := h
  have p1 := hT.plain1
  cases h0 : decide ((0 : Int) ≤ n) with
  | false =>
    have hr : hasS E n = false := by unfold hasS; rw [h0]; rfl
    refine givesW_of' Try.func36 rfl (by kernel_rfl) Try.ntmps36 rfl rfl fun Q hQ => ?_
    repeat (first
        | refine tr_seq_k fun _ _ => ?_
        | (refine tr_region ?_; simp only [go_sem, List.getElem?_toArray, str_beq, reduceCtorEq, Nat.reduceEqDiff, Nat.reduceLT, Nat.reduceLeDiff, Nat.reduceAdd, Nat.reduceMul, Nat.reduceSub, Nat.reduceBEq, ↓reduceIte, bne_self_eq_false, Bool.and_false, Bool.false_and, Bool.true_or, Bool.false_or, hb, h0, p1])
        | refine k_of (by assumption) ?_
        | refine tr_block ?_
        | refine tr_scope ?_
        | (refine tr_skip ?_; try simp only [ex_seq, ex_block])
        | (refine tr_label ?_; try simp only [ex_seq, ex_block])
        | (refine tr_exit ?_; try simp only [ex_seq_exit, ex_block_exit, Nat.reduceEqDiff, if_true, if_false, ex_seq, ex_block, reduceCtorEq, ↓reduceIte])
        | (refine tr_ret ?_; try simp only [ex_seq_ret, ex_block_ret]))
    refine (hQ _ _ [bA false] ?_ (by rw [hr]; rfl) rfl).2 <;> simp only [go_sem, List.getElem?_toArray, str_beq, reduceCtorEq, Nat.reduceEqDiff, Nat.reduceLT, Nat.reduceLeDiff, Nat.reduceAdd, Nat.reduceMul, Nat.reduceSub, Nat.reduceBEq, ↓reduceIte, bne_self_eq_false, Bool.and_false, Bool.false_and, Bool.true_or, Bool.false_or, Try.f36]
  | true =>
    obtain ⟨k, rfl⟩ : ∃ k : Nat, n = (k : Int) := ⟨n.toNat, by have := of_decide_eq_true h0; omega⟩
    by_cases hk : k < E.length
    · obtain ⟨h, L, rfl, _, hL, hEL, hkL, hg⟩ := row_getG hT (k := k) (by rw [txE_len]; exact hk)
      have h1 : decide ((k : Int) < (((txE E).length : Nat) : Int)) = true := decide_eq_true (by rw [txE_len]; omega)
      have hr : hasS E (k : Int) = !decide (L[k] = ⟨#[]⟩) := by
        unfold hasS
        rw [h0, Int.toNat_natCast, List.getElem?_eq_getElem hk, hg, txE_get]
        rfl
      have i1 := st_idx (b := h) (n := (txE E).length) (i := k) (by rw [txE_len]; exact hk)
      have g1 := st_get hkL
      refine givesW_of' Try.func36 rfl (by kernel_rfl) Try.ntmps36 rfl rfl fun Q hQ => ?_
      repeat (first
          | refine tr_seq_k fun _ _ => ?_
          | (refine tr_region ?_; simp only [go_sem, List.getElem?_toArray, str_beq, reduceCtorEq, Nat.reduceEqDiff, Nat.reduceLT, Nat.reduceLeDiff, Nat.reduceAdd, Nat.reduceMul, Nat.reduceSub, Nat.reduceBEq, ↓reduceIte, bne_self_eq_false, Bool.and_false, Bool.false_and, Bool.true_or, Bool.false_or, hb, h0, h1, hL, i1, g1])
          | refine k_of (by assumption) ?_
          | refine tr_block ?_
          | refine tr_scope ?_
          | (refine tr_skip ?_; try simp only [ex_seq, ex_block])
          | (refine tr_label ?_; try simp only [ex_seq, ex_block])
          | (refine tr_exit ?_; try simp only [ex_seq_exit, ex_block_exit, Nat.reduceEqDiff, if_true, if_false, ex_seq, ex_block, reduceCtorEq, ↓reduceIte])
          | (refine tr_ret ?_; try simp only [ex_seq_ret, ex_block_ret]))
      refine (hQ _ _ [bA (!decide (L[k] = ⟨#[]⟩))] ?_ (by rw [hr]; rfl) rfl).2 <;> simp only [go_sem, List.getElem?_toArray, str_beq, reduceCtorEq, Nat.reduceEqDiff, Nat.reduceLT, Nat.reduceLeDiff, Nat.reduceAdd, Nat.reduceMul, Nat.reduceSub, Nat.reduceBEq, ↓reduceIte, bne_self_eq_false, Bool.and_false, Bool.false_and, Bool.true_or, Bool.false_or, Try.f36]
    · have h1 : decide ((k : Int) < (((txE E).length : Nat) : Int)) = false := decide_eq_false (by rw [txE_len]; omega)
      have hr : hasS E (k : Int) = false := by
        unfold hasS
        rw [Int.toNat_natCast, List.getElem?_eq_none (by omega)]
        simp
      rcases slV_row hT with ⟨cs, hv, hv2⟩ | ⟨b', hv, hv2⟩
      · refine givesW_of' Try.func36 rfl (by kernel_rfl) Try.ntmps36 rfl rfl fun Q hQ => ?_
        repeat (first
            | refine tr_seq_k fun _ _ => ?_
            | (refine tr_region ?_; simp only [go_sem, List.getElem?_toArray, str_beq, reduceCtorEq, Nat.reduceEqDiff, Nat.reduceLT, Nat.reduceLeDiff, Nat.reduceAdd, Nat.reduceMul, Nat.reduceSub, Nat.reduceBEq, ↓reduceIte, bne_self_eq_false, Bool.and_false, Bool.false_and, Bool.true_or, Bool.false_or, hb, h0, p1, h1, hv, hv2])
            | refine k_of (by assumption) ?_
            | refine tr_block ?_
            | refine tr_scope ?_
            | (refine tr_skip ?_; try simp only [ex_seq, ex_block])
            | (refine tr_label ?_; try simp only [ex_seq, ex_block])
            | (refine tr_exit ?_; try simp only [ex_seq_exit, ex_block_exit, Nat.reduceEqDiff, if_true, if_false, ex_seq, ex_block, reduceCtorEq, ↓reduceIte])
            | (refine tr_ret ?_; try simp only [ex_seq_ret, ex_block_ret]))
        refine (hQ _ _ [bA false] ?_ (by rw [hr]; rfl) rfl).2 <;> simp only [go_sem, List.getElem?_toArray, str_beq, reduceCtorEq, Nat.reduceEqDiff, Nat.reduceLT, Nat.reduceLeDiff, Nat.reduceAdd, Nat.reduceMul, Nat.reduceSub, Nat.reduceBEq, ↓reduceIte, bne_self_eq_false, Bool.and_false, Bool.false_and, Bool.true_or, Bool.false_or, Try.f36]
      · refine givesW_of' Try.func36 rfl (by kernel_rfl) Try.ntmps36 rfl rfl fun Q hQ => ?_
        repeat (first
            | refine tr_seq_k fun _ _ => ?_
            | (refine tr_region ?_; simp only [go_sem, List.getElem?_toArray, str_beq, reduceCtorEq, Nat.reduceEqDiff, Nat.reduceLT, Nat.reduceLeDiff, Nat.reduceAdd, Nat.reduceMul, Nat.reduceSub, Nat.reduceBEq, ↓reduceIte, bne_self_eq_false, Bool.and_false, Bool.false_and, Bool.true_or, Bool.false_or, hb, h0, p1, h1, hv, hv2])
            | refine k_of (by assumption) ?_
            | refine tr_block ?_
            | refine tr_scope ?_
            | (refine tr_skip ?_; try simp only [ex_seq, ex_block])
            | (refine tr_label ?_; try simp only [ex_seq, ex_block])
            | (refine tr_exit ?_; try simp only [ex_seq_exit, ex_block_exit, Nat.reduceEqDiff, if_true, if_false, ex_seq, ex_block, reduceCtorEq, ↓reduceIte])
            | (refine tr_ret ?_; try simp only [ex_seq_ret, ex_block_ret]))
        refine (hQ _ _ [bA false] ?_ (by rw [hr]; rfl) rfl).2 <;> simp only [go_sem, List.getElem?_toArray, str_beq, reduceCtorEq, Nat.reduceEqDiff, Nat.reduceLT, Nat.reduceLeDiff, Nat.reduceAdd, Nat.reduceMul, Nat.reduceSub, Nat.reduceBEq, ↓reduceIte, bne_self_eq_false, Bool.and_false, Bool.false_and, Bool.true_or, Bool.false_or, Try.f36]

theorem rtext_gives {m : Mm} {b : Nat} {E : List Ent} {S : List Nat} (h : RefM m b E S) (n : Int) : GivesW Try.prog 22 [.ptr b 0, iA n] m (.tup [sA (textS E n), iA (if hasS E n then 0 else 13)]) m := by
  have hh := rhas_gives h n
  obtain ⟨c1, c2, s1, s2, hb, hT, hU, hS, hnd⟩ := h
  have p1 := hT.plain1
  cases h0 : hasS E n with
  | false =>
    rw [h0] at hh
    have hr : textS E n = emp := by unfold textS; rw [h0]; rfl
    rw [hr]
    refine givesW_of' Try.func22 rfl (by kernel_rfl) Try.ntmps22 rfl rfl fun Q hQ => ?_
    repeat (first
        | refine tr_seq_k fun _ _ => ?_
        | (refine tr_region ?_; simp only [go_sem, List.getElem?_toArray, str_beq, reduceCtorEq, Nat.reduceEqDiff, Nat.reduceLT, Nat.reduceLeDiff, Nat.reduceAdd, Nat.reduceMul, Nat.reduceSub, Nat.reduceBEq, ↓reduceIte, bne_self_eq_false, Bool.and_false, Bool.false_and, Bool.true_or, Bool.false_or])
        | (refine call_givesW (hh) ?_; (try dsimp only); (try simp only [go_sem, List.getElem?_toArray, str_beq, reduceCtorEq, Nat.reduceEqDiff, Nat.reduceLT, Nat.reduceLeDiff, Nat.reduceAdd, Nat.reduceMul, Nat.reduceSub, Nat.reduceBEq, ↓reduceIte, bne_self_eq_false, Bool.and_false, Bool.false_and, Bool.true_or, Bool.false_or]))
        | refine k_of (by assumption) ?_
        | refine tr_block ?_
        | refine tr_scope ?_
        | (refine tr_skip ?_; try simp only [ex_seq, ex_block])
        | (refine tr_label ?_; try simp only [ex_seq, ex_block])
        | (refine tr_exit ?_; try simp only [ex_seq_exit, ex_block_exit, Nat.reduceEqDiff, if_true, if_false, ex_seq, ex_block, reduceCtorEq, ↓reduceIte])
        | (refine tr_ret ?_; try simp only [ex_seq_ret, ex_block_ret]))
    refine tr_cond rfl (fun ht => ?_) (fun hf => ?_)
    · repeat (first
          | refine tr_seq_k fun _ _ => ?_
          | (refine tr_region ?_; simp only [go_sem, List.getElem?_toArray, str_beq, reduceCtorEq, Nat.reduceEqDiff, Nat.reduceLT, Nat.reduceLeDiff, Nat.reduceAdd, Nat.reduceMul, Nat.reduceSub, Nat.reduceBEq, ↓reduceIte, bne_self_eq_false, Bool.and_false, Bool.false_and, Bool.true_or, Bool.false_or])
          | refine k_of (by assumption) ?_
          | refine tr_block ?_
          | refine tr_scope ?_
          | (refine tr_skip ?_; try simp only [ex_seq, ex_block])
          | (refine tr_label ?_; try simp only [ex_seq, ex_block])
          | (refine tr_exit ?_; try simp only [ex_seq_exit, ex_block_exit, Nat.reduceEqDiff, if_true, if_false, ex_seq, ex_block, reduceCtorEq, ↓reduceIte])
          | (refine tr_ret ?_; try simp only [ex_seq_ret, ex_block_ret]))
      refine (hQ _ _ [sA ⟨#[]⟩, iA 13] ?_ rfl rfl).2 <;> simp only [go_sem, List.getElem?_toArray, str_beq, reduceCtorEq, Nat.reduceEqDiff, Nat.reduceLT, Nat.reduceLeDiff, Nat.reduceAdd, Nat.reduceMul, Nat.reduceSub, Nat.reduceBEq, ↓reduceIte, bne_self_eq_false, Bool.and_false, Bool.false_and, Bool.true_or, Bool.false_or, Try.f22]
    · cases hf
  | true =>
    rw [h0] at hh
    obtain ⟨k, rfl, hk, hne⟩ := hasS_spec h0
    obtain ⟨h, L, rfl, _, hL, hEL, hkL, hg⟩ := row_getG hT (k := k) (by rw [txE_len]; exact hk)
    have hr : textS E (k : Int) = L[k] := by
      unfold textS
      rw [h0, if_pos rfl, Int.toNat_natCast, getD_at hk, hg, txE_get]
    rw [hr]
    have i1 := st_idx (b := h) (n := (txE E).length) (i := k) (by rw [txE_len]; exact hk)
    have g1 := st_get hkL
    refine givesW_of' Try.func22 rfl (by kernel_rfl) Try.ntmps22 rfl rfl fun Q hQ => ?_
    repeat (first
        | refine tr_seq_k fun _ _ => ?_
        | (refine tr_region ?_; simp only [go_sem, List.getElem?_toArray, str_beq, reduceCtorEq, Nat.reduceEqDiff, Nat.reduceLT, Nat.reduceLeDiff, Nat.reduceAdd, Nat.reduceMul, Nat.reduceSub, Nat.reduceBEq, ↓reduceIte, bne_self_eq_false, Bool.and_false, Bool.false_and, Bool.true_or, Bool.false_or])
        | (refine call_givesW (hh) ?_; (try dsimp only); (try simp only [go_sem, List.getElem?_toArray, str_beq, reduceCtorEq, Nat.reduceEqDiff, Nat.reduceLT, Nat.reduceLeDiff, Nat.reduceAdd, Nat.reduceMul, Nat.reduceSub, Nat.reduceBEq, ↓reduceIte, bne_self_eq_false, Bool.and_false, Bool.false_and, Bool.true_or, Bool.false_or]))
        | refine k_of (by assumption) ?_
        | refine tr_block ?_
        | refine tr_scope ?_
        | (refine tr_skip ?_; try simp only [ex_seq, ex_block])
        | (refine tr_label ?_; try simp only [ex_seq, ex_block])
        | (refine tr_exit ?_; try simp only [ex_seq_exit, ex_block_exit, Nat.reduceEqDiff, if_true, if_false, ex_seq, ex_block, reduceCtorEq, ↓reduceIte])
        | (refine tr_ret ?_; try simp only [ex_seq_ret, ex_block_ret]))
    refine tr_cond rfl (fun ht => ?_) (fun hf => ?_)
    · cases ht
    · repeat (first
          | refine tr_seq_k fun _ _ => ?_
          | (refine tr_region ?_; simp only [go_sem, List.getElem?_toArray, str_beq, reduceCtorEq, Nat.reduceEqDiff, Nat.reduceLT, Nat.reduceLeDiff, Nat.reduceAdd, Nat.reduceMul, Nat.reduceSub, Nat.reduceBEq, ↓reduceIte, bne_self_eq_false, Bool.and_false, Bool.false_and, Bool.true_or, Bool.false_or, hb, p1, hL, i1, g1])
          | refine k_of (by assumption) ?_
          | refine tr_block ?_
          | refine tr_scope ?_
          | (refine tr_skip ?_; try simp only [ex_seq, ex_block])
          | (refine tr_label ?_; try simp only [ex_seq, ex_block])
          | (refine tr_exit ?_; try simp only [ex_seq_exit, ex_block_exit, Nat.reduceEqDiff, if_true, if_false, ex_seq, ex_block, reduceCtorEq, ↓reduceIte])
          | (refine tr_ret ?_; try simp only [ex_seq_ret, ex_block_ret]))
      refine (hQ _ _ [sA L[k], iA 0] ?_ rfl rfl).2 <;> simp only [go_sem, List.getElem?_toArray, str_beq, reduceCtorEq, Nat.reduceEqDiff, Nat.reduceLT, Nat.reduceLeDiff, Nat.reduceAdd, Nat.reduceMul, Nat.reduceSub, Nat.reduceBEq, ↓reduceIte, bne_self_eq_false, Bool.and_false, Bool.false_and, Bool.true_or, Bool.false_or, Try.f22]
theorem ruses_gives {m : Mm} {b : Nat} {E : List Ent} {S : List Nat} (h : RefM m b E S) (n : Int) : GivesW Try.prog 25 [.ptr b 0, iA n] m (iA (usesS E n : Nat)) m := by
  have hh := rhas_gives h n
  obtain ⟨c1, c2, s1, s2, hb, hT, hU, hS, hnd⟩ := h
  have p1 := hT.plain1
  cases h0 : hasS E n with
  | false =>
    rw [h0] at hh
    have hr : usesS E n = 0 := by unfold usesS; rw [h0]; rfl
    rw [hr]
    refine givesW_of' Try.func25 rfl (by kernel_rfl) Try.ntmps25 rfl rfl fun Q hQ => ?_
    repeat (first
        | refine tr_seq_k fun _ _ => ?_
        | (refine tr_region ?_; simp only [go_sem, List.getElem?_toArray, str_beq, reduceCtorEq, Nat.reduceEqDiff, Nat.reduceLT, Nat.reduceLeDiff, Nat.reduceAdd, Nat.reduceMul, Nat.reduceSub, Nat.reduceBEq, ↓reduceIte, bne_self_eq_false, Bool.and_false, Bool.false_and, Bool.true_or, Bool.false_or])
        | (refine call_givesW (hh) ?_; (try dsimp only); (try simp only [go_sem, List.getElem?_toArray, str_beq, reduceCtorEq, Nat.reduceEqDiff, Nat.reduceLT, Nat.reduceLeDiff, Nat.reduceAdd, Nat.reduceMul, Nat.reduceSub, Nat.reduceBEq, ↓reduceIte, bne_self_eq_false, Bool.and_false, Bool.false_and, Bool.true_or, Bool.false_or]))
        | refine k_of (by assumption) ?_
        | refine tr_block ?_
        | refine tr_scope ?_
        | (refine tr_skip ?_; try simp only [ex_seq, ex_block])
        | (refine tr_label ?_; try simp only [ex_seq, ex_block])
        | (refine tr_exit ?_; try simp only [ex_seq_exit, ex_block_exit, Nat.reduceEqDiff, if_true, if_false, ex_seq, ex_block, reduceCtorEq, ↓reduceIte])
        | (refine tr_ret ?_; try simp only [ex_seq_ret, ex_block_ret]))
    refine tr_cond rfl (fun ht => ?_) (fun hf => ?_)
    · repeat (first
          | refine tr_seq_k fun _ _ => ?_
          | (refine tr_region ?_; simp only [go_sem, List.getElem?_toArray, str_beq, reduceCtorEq, Nat.reduceEqDiff, Nat.reduceLT, Nat.reduceLeDiff, Nat.reduceAdd, Nat.reduceMul, Nat.reduceSub, Nat.reduceBEq, ↓reduceIte, bne_self_eq_false, Bool.and_false, Bool.false_and, Bool.true_or, Bool.false_or])
          | refine k_of (by assumption) ?_
          | refine tr_block ?_
          | refine tr_scope ?_
          | (refine tr_skip ?_; try simp only [ex_seq, ex_block])
          | (refine tr_label ?_; try simp only [ex_seq, ex_block])
          | (refine tr_exit ?_; try simp only [ex_seq_exit, ex_block_exit, Nat.reduceEqDiff, if_true, if_false, ex_seq, ex_block, reduceCtorEq, ↓reduceIte])
          | (refine tr_ret ?_; try simp only [ex_seq_ret, ex_block_ret]))
      refine (hQ _ _ [iA 0] ?_ rfl rfl).2 <;> simp only [go_sem, List.getElem?_toArray, str_beq, reduceCtorEq, Nat.reduceEqDiff, Nat.reduceLT, Nat.reduceLeDiff, Nat.reduceAdd, Nat.reduceMul, Nat.reduceSub, Nat.reduceBEq, ↓reduceIte, bne_self_eq_false, Bool.and_false, Bool.false_and, Bool.true_or, Bool.false_or, Try.f25]
    · cases hf
  | true =>
    rw [h0] at hh
    obtain ⟨k, rfl, hk, hne⟩ := hasS_spec h0
    obtain ⟨h, L, rfl, _, hL, hEL, hkL, hg⟩ := row_getG hU (k := k) (by rw [usE_len]; exact hk)
    have hr : ((usesS E (k : Int) : Nat) : Int) = L[k] := by
      unfold usesS
      rw [h0, if_pos rfl, Int.toNat_natCast, getD_at hk, hg, usE_get]
    rw [hr]
    have i1 := in_idx Try.underlying55 (b := h) (n := (usE E).length) (i := k) (by rw [usE_len]; exact hk)
    have g1 := in_get hkL
    refine givesW_of' Try.func25 rfl (by kernel_rfl) Try.ntmps25 rfl rfl fun Q hQ => ?_
    repeat (first
        | refine tr_seq_k fun _ _ => ?_
        | (refine tr_region ?_; simp only [go_sem, List.getElem?_toArray, str_beq, reduceCtorEq, Nat.reduceEqDiff, Nat.reduceLT, Nat.reduceLeDiff, Nat.reduceAdd, Nat.reduceMul, Nat.reduceSub, Nat.reduceBEq, ↓reduceIte, bne_self_eq_false, Bool.and_false, Bool.false_and, Bool.true_or, Bool.false_or])
        | (refine call_givesW (hh) ?_; (try dsimp only); (try simp only [go_sem, List.getElem?_toArray, str_beq, reduceCtorEq, Nat.reduceEqDiff, Nat.reduceLT, Nat.reduceLeDiff, Nat.reduceAdd, Nat.reduceMul, Nat.reduceSub, Nat.reduceBEq, ↓reduceIte, bne_self_eq_false, Bool.and_false, Bool.false_and, Bool.true_or, Bool.false_or]))
        | refine k_of (by assumption) ?_
        | refine tr_block ?_
        | refine tr_scope ?_
        | (refine tr_skip ?_; try simp only [ex_seq, ex_block])
        | (refine tr_label ?_; try simp only [ex_seq, ex_block])
        | (refine tr_exit ?_; try simp only [ex_seq_exit, ex_block_exit, Nat.reduceEqDiff, if_true, if_false, ex_seq, ex_block, reduceCtorEq, ↓reduceIte])
        | (refine tr_ret ?_; try simp only [ex_seq_ret, ex_block_ret]))
    refine tr_cond rfl (fun ht => ?_) (fun hf => ?_)
    · cases ht
    · repeat (first
          | refine tr_seq_k fun _ _ => ?_
          | (refine tr_region ?_; simp only [go_sem, List.getElem?_toArray, str_beq, reduceCtorEq, Nat.reduceEqDiff, Nat.reduceLT, Nat.reduceLeDiff, Nat.reduceAdd, Nat.reduceMul, Nat.reduceSub, Nat.reduceBEq, ↓reduceIte, bne_self_eq_false, Bool.and_false, Bool.false_and, Bool.true_or, Bool.false_or, hb, p1, hL, i1, g1])
          | refine k_of (by assumption) ?_
          | refine tr_block ?_
          | refine tr_scope ?_
          | (refine tr_skip ?_; try simp only [ex_seq, ex_block])
          | (refine tr_label ?_; try simp only [ex_seq, ex_block])
          | (refine tr_exit ?_; try simp only [ex_seq_exit, ex_block_exit, Nat.reduceEqDiff, if_true, if_false, ex_seq, ex_block, reduceCtorEq, ↓reduceIte])
          | (refine tr_ret ?_; try simp only [ex_seq_ret, ex_block_ret]))
      refine (hQ _ _ [iA L[k]] ?_ rfl rfl).2 <;> simp only [go_sem, List.getElem?_toArray, str_beq, reduceCtorEq, Nat.reduceEqDiff, Nat.reduceLT, Nat.reduceLeDiff, Nat.reduceAdd, Nat.reduceMul, Nat.reduceSub, Nat.reduceBEq, ↓reduceIte, bne_self_eq_false, Bool.and_false, Bool.false_and, Bool.true_or, Bool.false_or, Try.f25]

theorem rfind_gives {m : Mm} {b : Nat} {E : List Ent} {S : List Nat} (h : RefM m b E S) (hW : Wf m) (hM : E.length ≤ 1000) (s : ByteArray) : GivesW Try.prog 23 [.ptr b 0, sA s] m (.tup [iA ((findS E s).getD 0 : Nat), bA (findS E s).isSome]) m := by
  have hlt := h.lt
  obtain ⟨c1, c2, s1, s2, hb, hT, hU, hS, hnd⟩ := h
  have p1 := hT.plain1
  refine givesW_of' Try.func23 rfl (by kernel_rfl) Try.ntmps23 rfl rfl fun Q hQ => ?_
  repeat (first
      | refine tr_seq_k fun _ _ => ?_
      | (refine tr_region ?_; simp only [go_sem, List.getElem?_toArray, str_beq, reduceCtorEq, Nat.reduceEqDiff, Nat.reduceLT, Nat.reduceLeDiff, Nat.reduceAdd, Nat.reduceMul, Nat.reduceSub, Nat.reduceBEq, ↓reduceIte, bne_self_eq_false, Bool.and_false, Bool.false_and, Bool.true_or, Bool.false_or])
      | refine k_of (by assumption) ?_
      | refine tr_block ?_
      | refine tr_scope ?_
      | (refine tr_skip ?_; try simp only [ex_seq, ex_block])
      | (refine tr_label ?_; try simp only [ex_seq, ex_block])
      | (refine tr_exit ?_; try simp only [ex_seq_exit, ex_block_exit, Nat.reduceEqDiff, if_true, if_false, ex_seq, ex_block, reduceCtorEq, ↓reduceIte])
      | (refine tr_ret ?_; try simp only [ex_seq_ret, ex_block_ret]))
  refine tr_loop_k (σ := Nat) (fun k => [(0, .ptr b 0), (1, sA s), (6, iA k)]) (fun _ => m) (fun k => k ≤ E.length ∧ ∀ j (hj : j < k) (hE : j < E.length), s = emp ∨ (E[j]).1 ≠ s) (fun k => E.length - k) 0 ⟨Nat.zero_le _, fun j hj => absurd hj (Nat.not_lt_zero _)⟩ ⟨rfl, rfl, rfl, trivial⟩ rfl ?_
  rintro k ⟨hk, hI⟩ K hK
  by_cases hkl : k < E.length
  · obtain ⟨h, L, rfl, _, hL, hEL, hkL, hg⟩ := row_getG hT (k := k) (by rw [txE_len]; exact hkl)
    have h1 : decide ((k : Int) < (((txE E).length : Nat) : Int)) = true := decide_eq_true (by rw [txE_len]; omega)
    have i1 := st_idx (b := h) (n := (txE E).length) (i := k) (by rw [txE_len]; exact hkl)
    have g1 := st_get hkL
    have ws := wrap_succ (show k ≤ 1000000000 by omega)
    have hge : (E[k]).1 = L[k] := by rw [hg, txE_get]
    repeat (first
        | refine tr_seq_k fun _ _ => ?_
        | (refine tr_region ?_; simp only [go_sem, List.getElem?_toArray, str_beq, reduceCtorEq, Nat.reduceEqDiff, Nat.reduceLT, Nat.reduceLeDiff, Nat.reduceAdd, Nat.reduceMul, Nat.reduceSub, Nat.reduceBEq, ↓reduceIte, bne_self_eq_false, Bool.and_false, Bool.false_and, Bool.true_or, Bool.false_or, hb, h1])
        | refine k_of (by assumption) ?_
        | refine tr_block ?_
        | refine tr_scope ?_
        | (refine tr_skip ?_; try simp only [ex_seq, ex_block])
        | (refine tr_label ?_; try simp only [ex_seq, ex_block])
        | (refine tr_exit ?_; try simp only [ex_seq_exit, ex_block_exit, Nat.reduceEqDiff, if_true, if_false, ex_seq, ex_block, reduceCtorEq, ↓reduceIte])
        | (refine tr_ret ?_; try simp only [ex_seq_ret, ex_block_ret]))
    refine tr_cond rfl (fun ht => ?_) (fun hf => ?_)
    · cases h2 : decide (s = ⟨#[]⟩) with
      | true =>
        have h2' : s = emp := of_decide_eq_true h2
        repeat (first
            | refine tr_seq_k fun _ _ => ?_
            | (refine tr_region ?_; simp only [go_sem, List.getElem?_toArray, str_beq, reduceCtorEq, Nat.reduceEqDiff, Nat.reduceLT, Nat.reduceLeDiff, Nat.reduceAdd, Nat.reduceMul, Nat.reduceSub, Nat.reduceBEq, ↓reduceIte, bne_self_eq_false, Bool.and_false, Bool.false_and, Bool.true_or, Bool.false_or, hb, h1, h2])
            | refine k_of (by assumption) ?_
            | refine tr_block ?_
            | refine tr_scope ?_
            | (refine tr_skip ?_; try simp only [ex_seq, ex_block])
            | (refine tr_label ?_; try simp only [ex_seq, ex_block])
            | (refine tr_exit ?_; try simp only [ex_seq_exit, ex_block_exit, Nat.reduceEqDiff, if_true, if_false, ex_seq, ex_block, reduceCtorEq, ↓reduceIte])
            | (refine tr_ret ?_; try simp only [ex_seq_ret, ex_block_ret]))
        refine tr_cond rfl (fun ht => ?_) (fun hf => ?_)
        · cases ht
        · repeat (first
              | refine tr_seq_k fun _ _ => ?_
              | (refine tr_region ?_; simp only [go_sem, List.getElem?_toArray, str_beq, reduceCtorEq, Nat.reduceEqDiff, Nat.reduceLT, Nat.reduceLeDiff, Nat.reduceAdd, Nat.reduceMul, Nat.reduceSub, Nat.reduceBEq, ↓reduceIte, bne_self_eq_false, Bool.and_false, Bool.false_and, Bool.true_or, Bool.false_or, ws])
              | refine k_of (by assumption) ?_
              | refine tr_block ?_
              | refine tr_scope ?_
              | (refine tr_skip ?_; try simp only [ex_seq, ex_block])
              | (refine tr_label ?_; try simp only [ex_seq, ex_block])
              | (refine tr_exit ?_; try simp only [ex_seq_exit, ex_block_exit, Nat.reduceEqDiff, if_true, if_false, ex_seq, ex_block, reduceCtorEq, ↓reduceIte])
              | (refine tr_ret ?_; try simp only [ex_seq_ret, ex_block_ret]))
          exact hK (k + 1) _ _ ⟨hkl, fun j hj hE => Or.inl h2'⟩ ⟨⟨rfl, rfl, rfl, trivial⟩, Keep.refl _, by simp only [lowF, low, Bool.and_true, Bool.true_and, Nat.blt_eq]; exact hlt, hW, Nat.le_refl _, Nat.le_refl _⟩ (by omega)
      | false =>
        have h2' : s ≠ emp := of_decide_eq_false h2
        cases h3 : decide (L[k] = s) with
        | true =>
          have h3' := of_decide_eq_true h3
          have hr : findS E s = some k := findS_of h2' hkl (by rw [hge]; exact h3') (fun j hj => (hI j hj (by omega)).resolve_left h2')
          repeat (first
              | refine tr_seq_k fun _ _ => ?_
              | (refine tr_region ?_; simp only [go_sem, List.getElem?_toArray, str_beq, reduceCtorEq, Nat.reduceEqDiff, Nat.reduceLT, Nat.reduceLeDiff, Nat.reduceAdd, Nat.reduceMul, Nat.reduceSub, Nat.reduceBEq, ↓reduceIte, bne_self_eq_false, Bool.and_false, Bool.false_and, Bool.true_or, Bool.false_or, hb, h1, h2, hL, i1, g1, h3])
              | refine k_of (by assumption) ?_
              | refine tr_block ?_
              | refine tr_scope ?_
              | (refine tr_skip ?_; try simp only [ex_seq, ex_block])
              | (refine tr_label ?_; try simp only [ex_seq, ex_block])
              | (refine tr_exit ?_; try simp only [ex_seq_exit, ex_block_exit, Nat.reduceEqDiff, if_true, if_false, ex_seq, ex_block, reduceCtorEq, ↓reduceIte])
              | (refine tr_ret ?_; try simp only [ex_seq_ret, ex_block_ret]))
          refine tr_cond rfl (fun ht => ?_) (fun hf => ?_)
          · repeat (first
                | refine tr_seq_k fun _ _ => ?_
                | (refine tr_region ?_; simp only [go_sem, List.getElem?_toArray, str_beq, reduceCtorEq, Nat.reduceEqDiff, Nat.reduceLT, Nat.reduceLeDiff, Nat.reduceAdd, Nat.reduceMul, Nat.reduceSub, Nat.reduceBEq, ↓reduceIte, bne_self_eq_false, Bool.and_false, Bool.false_and, Bool.true_or, Bool.false_or])
                | refine k_of (by assumption) ?_
                | refine tr_block ?_
                | refine tr_scope ?_
                | (refine tr_skip ?_; try simp only [ex_seq, ex_block])
                | (refine tr_label ?_; try simp only [ex_seq, ex_block])
                | (refine tr_exit ?_; try simp only [ex_seq_exit, ex_block_exit, Nat.reduceEqDiff, if_true, if_false, ex_seq, ex_block, reduceCtorEq, ↓reduceIte])
                | (refine tr_ret ?_; try simp only [ex_seq_ret, ex_block_ret]))
            refine (hQ _ _ [iA k, bA true] ?_ (by rw [hr]; rfl) rfl).2 <;> simp only [go_sem, List.getElem?_toArray, str_beq, reduceCtorEq, Nat.reduceEqDiff, Nat.reduceLT, Nat.reduceLeDiff, Nat.reduceAdd, Nat.reduceMul, Nat.reduceSub, Nat.reduceBEq, ↓reduceIte, bne_self_eq_false, Bool.and_false, Bool.false_and, Bool.true_or, Bool.false_or, Try.f23]
          · cases hf
        | false =>
          have h3' := of_decide_eq_false h3
          repeat (first
              | refine tr_seq_k fun _ _ => ?_
              | (refine tr_region ?_; simp only [go_sem, List.getElem?_toArray, str_beq, reduceCtorEq, Nat.reduceEqDiff, Nat.reduceLT, Nat.reduceLeDiff, Nat.reduceAdd, Nat.reduceMul, Nat.reduceSub, Nat.reduceBEq, ↓reduceIte, bne_self_eq_false, Bool.and_false, Bool.false_and, Bool.true_or, Bool.false_or, hb, h1, h2, hL, i1, g1, h3])
              | refine k_of (by assumption) ?_
              | refine tr_block ?_
              | refine tr_scope ?_
              | (refine tr_skip ?_; try simp only [ex_seq, ex_block])
              | (refine tr_label ?_; try simp only [ex_seq, ex_block])
              | (refine tr_exit ?_; try simp only [ex_seq_exit, ex_block_exit, Nat.reduceEqDiff, if_true, if_false, ex_seq, ex_block, reduceCtorEq, ↓reduceIte])
              | (refine tr_ret ?_; try simp only [ex_seq_ret, ex_block_ret]))
          refine tr_cond rfl (fun ht => ?_) (fun hf => ?_)
          · cases ht
          · repeat (first
                | refine tr_seq_k fun _ _ => ?_
                | (refine tr_region ?_; simp only [go_sem, List.getElem?_toArray, str_beq, reduceCtorEq, Nat.reduceEqDiff, Nat.reduceLT, Nat.reduceLeDiff, Nat.reduceAdd, Nat.reduceMul, Nat.reduceSub, Nat.reduceBEq, ↓reduceIte, bne_self_eq_false, Bool.and_false, Bool.false_and, Bool.true_or, Bool.false_or, ws])
                | refine k_of (by assumption) ?_
                | refine tr_block ?_
                | refine tr_scope ?_
                | (refine tr_skip ?_; try simp only [ex_seq, ex_block])
                | (refine tr_label ?_; try simp only [ex_seq, ex_block])
                | (refine tr_exit ?_; try simp only [ex_seq_exit, ex_block_exit, Nat.reduceEqDiff, if_true, if_false, ex_seq, ex_block, reduceCtorEq, ↓reduceIte])
                | (refine tr_ret ?_; try simp only [ex_seq_ret, ex_block_ret]))
            exact hK (k + 1) _ _ ⟨hkl, fun j hj hE => by
              rcases Nat.lt_succ_iff_lt_or_eq.1 hj with h | rfl
              · exact hI j h hE
              · exact Or.inr (by rw [hge]; exact h3')⟩ ⟨⟨rfl, rfl, rfl, trivial⟩, Keep.refl _, by simp only [lowF, low, Bool.and_true, Bool.true_and, Nat.blt_eq]; exact hlt, hW, Nat.le_refl _, Nat.le_refl _⟩ (by omega)
    · cases hf
  · have h1 : decide ((k : Int) < (((txE E).length : Nat) : Int)) = false := decide_eq_false (by rw [txE_len]; omega)
    have hr : findS E s = none := by
      by_cases h2 : s = emp
      · unfold findS; rw [if_pos h2]
      · exact findS_no fun j hj => (hI j (by omega) hj).resolve_left h2
    rcases slV_row hT with ⟨cs, hv, hv2⟩ | ⟨b', hv, hv2⟩
    · repeat (first
          | refine tr_seq_k fun _ _ => ?_
          | (refine tr_region ?_; simp only [go_sem, List.getElem?_toArray, str_beq, reduceCtorEq, Nat.reduceEqDiff, Nat.reduceLT, Nat.reduceLeDiff, Nat.reduceAdd, Nat.reduceMul, Nat.reduceSub, Nat.reduceBEq, ↓reduceIte, bne_self_eq_false, Bool.and_false, Bool.false_and, Bool.true_or, Bool.false_or, hb, h1, p1, hv, hv2])
          | refine k_of (by assumption) ?_
          | refine tr_block ?_
          | refine tr_scope ?_
          | (refine tr_skip ?_; try simp only [ex_seq, ex_block])
          | (refine tr_label ?_; try simp only [ex_seq, ex_block])
          | (refine tr_exit ?_; try simp only [ex_seq_exit, ex_block_exit, Nat.reduceEqDiff, if_true, if_false, ex_seq, ex_block, reduceCtorEq, ↓reduceIte])
          | (refine tr_ret ?_; try simp only [ex_seq_ret, ex_block_ret]))
      refine tr_cond rfl (fun ht => ?_) (fun hf => ?_)
      · cases ht
      · repeat (first
            | refine tr_seq_k fun _ _ => ?_
            | (refine tr_region ?_; simp only [go_sem, List.getElem?_toArray, str_beq, reduceCtorEq, Nat.reduceEqDiff, Nat.reduceLT, Nat.reduceLeDiff, Nat.reduceAdd, Nat.reduceMul, Nat.reduceSub, Nat.reduceBEq, ↓reduceIte, bne_self_eq_false, Bool.and_false, Bool.false_and, Bool.true_or, Bool.false_or])
            | refine k_of (by assumption) ?_
            | refine tr_block ?_
            | refine tr_scope ?_
            | (refine tr_skip ?_; try simp only [ex_seq, ex_block])
            | (refine tr_label ?_; try simp only [ex_seq, ex_block])
            | (refine tr_exit ?_; try simp only [ex_seq_exit, ex_block_exit, Nat.reduceEqDiff, if_true, if_false, ex_seq, ex_block, reduceCtorEq, ↓reduceIte])
            | (refine tr_ret ?_; try simp only [ex_seq_ret, ex_block_ret]))
        refine (hQ _ _ [iA 0, bA false] ?_ (by rw [hr]; rfl) rfl).2 <;> simp only [go_sem, List.getElem?_toArray, str_beq, reduceCtorEq, Nat.reduceEqDiff, Nat.reduceLT, Nat.reduceLeDiff, Nat.reduceAdd, Nat.reduceMul, Nat.reduceSub, Nat.reduceBEq, ↓reduceIte, bne_self_eq_false, Bool.and_false, Bool.false_and, Bool.true_or, Bool.false_or, Try.f23]
    · repeat (first
          | refine tr_seq_k fun _ _ => ?_
          | (refine tr_region ?_; simp only [go_sem, List.getElem?_toArray, str_beq, reduceCtorEq, Nat.reduceEqDiff, Nat.reduceLT, Nat.reduceLeDiff, Nat.reduceAdd, Nat.reduceMul, Nat.reduceSub, Nat.reduceBEq, ↓reduceIte, bne_self_eq_false, Bool.and_false, Bool.false_and, Bool.true_or, Bool.false_or, hb, h1, p1, hv, hv2])
          | refine k_of (by assumption) ?_
          | refine tr_block ?_
          | refine tr_scope ?_
          | (refine tr_skip ?_; try simp only [ex_seq, ex_block])
          | (refine tr_label ?_; try simp only [ex_seq, ex_block])
          | (refine tr_exit ?_; try simp only [ex_seq_exit, ex_block_exit, Nat.reduceEqDiff, if_true, if_false, ex_seq, ex_block, reduceCtorEq, ↓reduceIte])
          | (refine tr_ret ?_; try simp only [ex_seq_ret, ex_block_ret]))
      refine tr_cond rfl (fun ht => ?_) (fun hf => ?_)
      · cases ht
      · repeat (first
            | refine tr_seq_k fun _ _ => ?_
            | (refine tr_region ?_; simp only [go_sem, List.getElem?_toArray, str_beq, reduceCtorEq, Nat.reduceEqDiff, Nat.reduceLT, Nat.reduceLeDiff, Nat.reduceAdd, Nat.reduceMul, Nat.reduceSub, Nat.reduceBEq, ↓reduceIte, bne_self_eq_false, Bool.and_false, Bool.false_and, Bool.true_or, Bool.false_or])
            | refine k_of (by assumption) ?_
            | refine tr_block ?_
            | refine tr_scope ?_
            | (refine tr_skip ?_; try simp only [ex_seq, ex_block])
            | (refine tr_label ?_; try simp only [ex_seq, ex_block])
            | (refine tr_exit ?_; try simp only [ex_seq_exit, ex_block_exit, Nat.reduceEqDiff, if_true, if_false, ex_seq, ex_block, reduceCtorEq, ↓reduceIte])
            | (refine tr_ret ?_; try simp only [ex_seq_ret, ex_block_ret]))
        refine (hQ _ _ [iA 0, bA false] ?_ (by rw [hr]; rfl) rfl).2 <;> simp only [go_sem, List.getElem?_toArray, str_beq, reduceCtorEq, Nat.reduceEqDiff, Nat.reduceLT, Nat.reduceLeDiff, Nat.reduceAdd, Nat.reduceMul, Nat.reduceSub, Nat.reduceBEq, ↓reduceIte, bne_self_eq_false, Bool.and_false, Bool.false_and, Bool.true_or, Bool.false_or, Try.f23]

theorem liveN_take {E : List Ent} {k : Nat} (hk : k < E.length) : liveN (E.take (k + 1)) = liveN (E.take k) + if liveB E[k] then 1 else 0 := by
  rw [← List.take_append_getElem hk]
  unfold liveN
  rw [List.filter_append, List.length_append]
  cases h : liveB E[k] <;> simp [List.filter_cons, h]
theorem rlen_gives {m : Mm} {b : Nat} {E : List Ent} {S : List Nat} (h : RefM m b E S) (hW : Wf m) (hM : E.length ≤ 1000) : GivesW Try.prog 26 [.ptr b 0] m (iA (liveN E : Nat)) m := by
  have hlt := h.lt
  obtain ⟨c1, c2, s1, s2, hb, hT, hU, hS, hnd⟩ := h
  have p1 := hT.plain1
  have z0 : ((0 : Nat) : Int) = 0 := rfl
  refine givesW_of' Try.func26 rfl (by kernel_rfl) Try.ntmps26 rfl rfl fun Q hQ => ?_
  repeat (first
      | refine tr_seq_k fun _ _ => ?_
      | (refine tr_region ?_; simp only [go_sem, List.getElem?_toArray, str_beq, reduceCtorEq, Nat.reduceEqDiff, Nat.reduceLT, Nat.reduceLeDiff, Nat.reduceAdd, Nat.reduceMul, Nat.reduceSub, Nat.reduceBEq, ↓reduceIte, bne_self_eq_false, Bool.and_false, Bool.false_and, Bool.true_or, Bool.false_or])
      | refine k_of (by assumption) ?_
      | refine tr_block ?_
      | refine tr_scope ?_
      | (refine tr_skip ?_; try simp only [ex_seq, ex_block])
      | (refine tr_label ?_; try simp only [ex_seq, ex_block])
      | (refine tr_exit ?_; try simp only [ex_seq_exit, ex_block_exit, Nat.reduceEqDiff, if_true, if_false, ex_seq, ex_block, reduceCtorEq, ↓reduceIte])
      | (refine tr_ret ?_; try simp only [ex_seq_ret, ex_block_ret]))
  refine tr_loop_k (σ := Nat) (fun k => [(0, .ptr b 0), (3, iA (liveN (E.take k) : Nat)), (4, iA k)]) (fun _ => m) (fun k => k ≤ E.length) (fun k => E.length - k) 0 (Nat.zero_le _) ⟨rfl, rfl, rfl, trivial⟩ rfl ?_
  rintro k hk K hK
  by_cases hkl : k < E.length
  · obtain ⟨h, L, rfl, _, hL, hEL, hkL, hg⟩ := row_getG hT (k := k) (by rw [txE_len]; exact hkl)
    have h1 : decide ((k : Int) < (((txE E).length : Nat) : Int)) = true := decide_eq_true (by rw [txE_len]; omega)
    have i1 := st_idx (b := h) (n := (txE E).length) (i := k) (by rw [txE_len]; exact hkl)
    have g1 := st_get hkL
    have ws := wrap_succ (show k ≤ 1000000000 by omega)
    have hge : (E[k]).1 = L[k] := by rw [hg, txE_get]
    have hlk := liveN_take hkl
    have hle : liveN (E.take k) ≤ 1000 := Nat.le_trans (liveN_le _) (by rw [List.length_take]; omega)
    have wl := wrap_succ (show liveN (E.take k) ≤ 1000000000 by omega)
    repeat (first
        | refine tr_seq_k fun _ _ => ?_
        | (refine tr_region ?_; simp only [go_sem, List.getElem?_toArray, str_beq, reduceCtorEq, Nat.reduceEqDiff, Nat.reduceLT, Nat.reduceLeDiff, Nat.reduceAdd, Nat.reduceMul, Nat.reduceSub, Nat.reduceBEq, ↓reduceIte, bne_self_eq_false, Bool.and_false, Bool.false_and, Bool.true_or, Bool.false_or, hb, h1])
        | refine k_of (by assumption) ?_
        | refine tr_block ?_
        | refine tr_scope ?_
        | (refine tr_skip ?_; try simp only [ex_seq, ex_block])
        | (refine tr_label ?_; try simp only [ex_seq, ex_block])
        | (refine tr_exit ?_; try simp only [ex_seq_exit, ex_block_exit, Nat.reduceEqDiff, if_true, if_false, ex_seq, ex_block, reduceCtorEq, ↓reduceIte])
        | (refine tr_ret ?_; try simp only [ex_seq_ret, ex_block_ret]))
    refine tr_cond rfl (fun ht => ?_) (fun hf => ?_)
    · cases h2 : decide (L[k] = ⟨#[]⟩) with
      | true =>
        have h2' : (E[k]).1 = emp := by rw [hge]; exact of_decide_eq_true h2
        rw [show liveB E[k] = false by simp [liveB, h2'], if_neg Bool.false_ne_true, Nat.add_zero] at hlk
        repeat (first
            | refine tr_seq_k fun _ _ => ?_
            | (refine tr_region ?_; simp only [go_sem, List.getElem?_toArray, str_beq, reduceCtorEq, Nat.reduceEqDiff, Nat.reduceLT, Nat.reduceLeDiff, Nat.reduceAdd, Nat.reduceMul, Nat.reduceSub, Nat.reduceBEq, ↓reduceIte, bne_self_eq_false, Bool.and_false, Bool.false_and, Bool.true_or, Bool.false_or, hb, h1, hL, i1, g1, h2])
            | refine k_of (by assumption) ?_
            | refine tr_block ?_
            | refine tr_scope ?_
            | (refine tr_skip ?_; try simp only [ex_seq, ex_block])
            | (refine tr_label ?_; try simp only [ex_seq, ex_block])
            | (refine tr_exit ?_; try simp only [ex_seq_exit, ex_block_exit, Nat.reduceEqDiff, if_true, if_false, ex_seq, ex_block, reduceCtorEq, ↓reduceIte])
            | (refine tr_ret ?_; try simp only [ex_seq_ret, ex_block_ret]))
        refine tr_cond rfl (fun ht => ?_) (fun hf => ?_)
        · cases ht
        · repeat (first
              | refine tr_seq_k fun _ _ => ?_
              | (refine tr_region ?_; simp only [go_sem, List.getElem?_toArray, str_beq, reduceCtorEq, Nat.reduceEqDiff, Nat.reduceLT, Nat.reduceLeDiff, Nat.reduceAdd, Nat.reduceMul, Nat.reduceSub, Nat.reduceBEq, ↓reduceIte, bne_self_eq_false, Bool.and_false, Bool.false_and, Bool.true_or, Bool.false_or, ws])
              | refine k_of (by assumption) ?_
              | refine tr_block ?_
              | refine tr_scope ?_
              | (refine tr_skip ?_; try simp only [ex_seq, ex_block])
              | (refine tr_label ?_; try simp only [ex_seq, ex_block])
              | (refine tr_exit ?_; try simp only [ex_seq_exit, ex_block_exit, Nat.reduceEqDiff, if_true, if_false, ex_seq, ex_block, reduceCtorEq, ↓reduceIte])
              | (refine tr_ret ?_; try simp only [ex_seq_ret, ex_block_ret]))
          exact hK (k + 1) _ _ hkl ⟨⟨rfl, by rw [hlk]; rfl, rfl, trivial⟩, Keep.refl _, by simp only [lowF, low, Bool.and_true, Bool.true_and, Nat.blt_eq]; exact hlt, hW, Nat.le_refl _, Nat.le_refl _⟩ (by omega)
      | false =>
        have h2' : (E[k]).1 ≠ emp := by rw [hge]; exact of_decide_eq_false h2
        rw [show liveB E[k] = true by simp [liveB, h2'], if_pos rfl] at hlk
        repeat (first
            | refine tr_seq_k fun _ _ => ?_
            | (refine tr_region ?_; simp only [go_sem, List.getElem?_toArray, str_beq, reduceCtorEq, Nat.reduceEqDiff, Nat.reduceLT, Nat.reduceLeDiff, Nat.reduceAdd, Nat.reduceMul, Nat.reduceSub, Nat.reduceBEq, ↓reduceIte, bne_self_eq_false, Bool.and_false, Bool.false_and, Bool.true_or, Bool.false_or, hb, h1, hL, i1, g1, h2])
            | refine k_of (by assumption) ?_
            | refine tr_block ?_
            | refine tr_scope ?_
            | (refine tr_skip ?_; try simp only [ex_seq, ex_block])
            | (refine tr_label ?_; try simp only [ex_seq, ex_block])
            | (refine tr_exit ?_; try simp only [ex_seq_exit, ex_block_exit, Nat.reduceEqDiff, if_true, if_false, ex_seq, ex_block, reduceCtorEq, ↓reduceIte])
            | (refine tr_ret ?_; try simp only [ex_seq_ret, ex_block_ret]))
        refine tr_cond rfl (fun ht => ?_) (fun hf => ?_)
        · repeat (first
              | refine tr_seq_k fun _ _ => ?_
              | (refine tr_region ?_; simp only [go_sem, List.getElem?_toArray, str_beq, reduceCtorEq, Nat.reduceEqDiff, Nat.reduceLT, Nat.reduceLeDiff, Nat.reduceAdd, Nat.reduceMul, Nat.reduceSub, Nat.reduceBEq, ↓reduceIte, bne_self_eq_false, Bool.and_false, Bool.false_and, Bool.true_or, Bool.false_or, ws, wl])
              | refine k_of (by assumption) ?_
              | refine tr_block ?_
              | refine tr_scope ?_
              | (refine tr_skip ?_; try simp only [ex_seq, ex_block])
              | (refine tr_label ?_; try simp only [ex_seq, ex_block])
              | (refine tr_exit ?_; try simp only [ex_seq_exit, ex_block_exit, Nat.reduceEqDiff, if_true, if_false, ex_seq, ex_block, reduceCtorEq, ↓reduceIte])
              | (refine tr_ret ?_; try simp only [ex_seq_ret, ex_block_ret]))
          exact hK (k + 1) _ _ hkl ⟨⟨rfl, by rw [hlk]; rfl, rfl, trivial⟩, Keep.refl _, by simp only [lowF, low, Bool.and_true, Bool.true_and, Nat.blt_eq]; exact hlt, hW, Nat.le_refl _, Nat.le_refl _⟩ (by omega)
        · cases hf
    · cases hf
  · have h1 : decide ((k : Int) < (((txE E).length : Nat) : Int)) = false := decide_eq_false (by rw [txE_len]; omega)
    have hr : liveN (E.take k) = liveN E := by rw [List.take_of_length_le (by omega)]
    rcases slV_row hT with ⟨cs, hv, hv2⟩ | ⟨b', hv, hv2⟩
    · repeat (first
          | refine tr_seq_k fun _ _ => ?_
          | (refine tr_region ?_; simp only [go_sem, List.getElem?_toArray, str_beq, reduceCtorEq, Nat.reduceEqDiff, Nat.reduceLT, Nat.reduceLeDiff, Nat.reduceAdd, Nat.reduceMul, Nat.reduceSub, Nat.reduceBEq, ↓reduceIte, bne_self_eq_false, Bool.and_false, Bool.false_and, Bool.true_or, Bool.false_or, hb, h1, p1, hv, hv2])
          | refine k_of (by assumption) ?_
          | refine tr_block ?_
          | refine tr_scope ?_
          | (refine tr_skip ?_; try simp only [ex_seq, ex_block])
          | (refine tr_label ?_; try simp only [ex_seq, ex_block])
          | (refine tr_exit ?_; try simp only [ex_seq_exit, ex_block_exit, Nat.reduceEqDiff, if_true, if_false, ex_seq, ex_block, reduceCtorEq, ↓reduceIte])
          | (refine tr_ret ?_; try simp only [ex_seq_ret, ex_block_ret]))
      refine tr_cond rfl (fun ht => ?_) (fun hf => ?_)
      · cases ht
      · repeat (first
            | refine tr_seq_k fun _ _ => ?_
            | (refine tr_region ?_; simp only [go_sem, List.getElem?_toArray, str_beq, reduceCtorEq, Nat.reduceEqDiff, Nat.reduceLT, Nat.reduceLeDiff, Nat.reduceAdd, Nat.reduceMul, Nat.reduceSub, Nat.reduceBEq, ↓reduceIte, bne_self_eq_false, Bool.and_false, Bool.false_and, Bool.true_or, Bool.false_or])
            | refine k_of (by assumption) ?_
            | refine tr_block ?_
            | refine tr_scope ?_
            | (refine tr_skip ?_; try simp only [ex_seq, ex_block])
            | (refine tr_label ?_; try simp only [ex_seq, ex_block])
            | (refine tr_exit ?_; try simp only [ex_seq_exit, ex_block_exit, Nat.reduceEqDiff, if_true, if_false, ex_seq, ex_block, reduceCtorEq, ↓reduceIte])
            | (refine tr_ret ?_; try simp only [ex_seq_ret, ex_block_ret]))
        refine (hQ _ _ [iA (liveN (E.take k) : Nat)] ?_ (by rw [hr]; rfl) rfl).2 <;> simp only [go_sem, List.getElem?_toArray, str_beq, reduceCtorEq, Nat.reduceEqDiff, Nat.reduceLT, Nat.reduceLeDiff, Nat.reduceAdd, Nat.reduceMul, Nat.reduceSub, Nat.reduceBEq, ↓reduceIte, bne_self_eq_false, Bool.and_false, Bool.false_and, Bool.true_or, Bool.false_or, Try.f26]
    · repeat (first
          | refine tr_seq_k fun _ _ => ?_
          | (refine tr_region ?_; simp only [go_sem, List.getElem?_toArray, str_beq, reduceCtorEq, Nat.reduceEqDiff, Nat.reduceLT, Nat.reduceLeDiff, Nat.reduceAdd, Nat.reduceMul, Nat.reduceSub, Nat.reduceBEq, ↓reduceIte, bne_self_eq_false, Bool.and_false, Bool.false_and, Bool.true_or, Bool.false_or, hb, h1, p1, hv, hv2])
          | refine k_of (by assumption) ?_
          | refine tr_block ?_
          | refine tr_scope ?_
          | (refine tr_skip ?_; try simp only [ex_seq, ex_block])
          | (refine tr_label ?_; try simp only [ex_seq, ex_block])
          | (refine tr_exit ?_; try simp only [ex_seq_exit, ex_block_exit, Nat.reduceEqDiff, if_true, if_false, ex_seq, ex_block, reduceCtorEq, ↓reduceIte])
          | (refine tr_ret ?_; try simp only [ex_seq_ret, ex_block_ret]))
      refine tr_cond rfl (fun ht => ?_) (fun hf => ?_)
      · cases ht
      · repeat (first
            | refine tr_seq_k fun _ _ => ?_
            | (refine tr_region ?_; simp only [go_sem, List.getElem?_toArray, str_beq, reduceCtorEq, Nat.reduceEqDiff, Nat.reduceLT, Nat.reduceLeDiff, Nat.reduceAdd, Nat.reduceMul, Nat.reduceSub, Nat.reduceBEq, ↓reduceIte, bne_self_eq_false, Bool.and_false, Bool.false_and, Bool.true_or, Bool.false_or])
            | refine k_of (by assumption) ?_
            | refine tr_block ?_
            | refine tr_scope ?_
            | (refine tr_skip ?_; try simp only [ex_seq, ex_block])
            | (refine tr_label ?_; try simp only [ex_seq, ex_block])
            | (refine tr_exit ?_; try simp only [ex_seq_exit, ex_block_exit, Nat.reduceEqDiff, if_true, if_false, ex_seq, ex_block, reduceCtorEq, ↓reduceIte])
            | (refine tr_ret ?_; try simp only [ex_seq_ret, ex_block_ret]))
        refine (hQ _ _ [iA (liveN (E.take k) : Nat)] ?_ (by rw [hr]; rfl) rfl).2 <;> simp only [go_sem, List.getElem?_toArray, str_beq, reduceCtorEq, Nat.reduceEqDiff, Nat.reduceLT, Nat.reduceLeDiff, Nat.reduceAdd, Nat.reduceMul, Nat.reduceSub, Nat.reduceBEq, ↓reduceIte, bne_self_eq_false, Bool.and_false, Bool.false_and, Bool.true_or, Bool.false_or, Try.f26]
end Go.Proofs.Ytlhlcfijpdknfaa

/-
  Chapter 2: entries, as a contract.
-/
set_option linter.unusedSimpArgs false
set_option linter.unusedVariables false
namespace Go.Proofs.Ytlhlcfijpdknfaa
open Go.RowKit Go.Maps Go.Sort Go.Shelf Go.Vs Go.Vs.Ab Go.Vs.Hp Go.Vs.Tb
set_option maxRecDepth 100000
set_option maxHeartbeats 4000000

theorem exV_flat_rep (C : Nat → Nat → Option Value) : ∀ l : List (Nat × ByteArray), RepCs C (l.flatMap exC) (l.flatMap exV)
  | [] => ⟨rfl, fun i c x h => by simp at h⟩
  | p :: r => by
    have ih := exV_flat_rep C r
    refine ⟨?_, fun i c x h1 h2 => ?_⟩
    · have := ih.1
      simp only [List.flatMap_cons, List.length_append, this]
      rfl
    · rw [List.flatMap_cons] at h1 h2
      match i with
      | 0 => simp [exC] at h1; simp [exV] at h2; subst h1 h2; exact .v rfl
      | 1 => simp [exC] at h1; simp [exV] at h2; subst h1 h2; exact .v rfl
      | i + 2 => exact ih.2 i c x (by simpa [exC] using h1) (by simpa [exV] using h2)
theorem exV_len (l : List (Nat × ByteArray)) : (l.flatMap exV).length = l.length * 2 := by
  induction l with
  | nil => rfl
  | cons p r ih => rw [List.flatMap_cons, List.length_append, ih, List.length_cons]; simp [exV]; omega

/-- A table in memory, as its iterator reads it. -/
theorem tw_of {m : Mm} {b : Nat} {E : List Ent} {S : List Nat} (h : TabM m b E S) (hE : E.length ≤ 1000) (hts : ∀ e ∈ E, e.1.size ≤ maxLen) {X : Mem} {W0 w : World} (M : MR X W0 m w) {β : Nat} (hβ : X.loc b = some β) :
    ∃ bm a cap N, ∀ w', Below w.heap.size w w' → ∀ Bt, Bt < w'.heap.size → w'.cell? ⟨Bt, 0, none⟩ = some (.pointer (some ⟨β, 0, none⟩)) → TW w' Bt β bm a cap E N := by
  obtain ⟨c1, c2, mb, F, N, s1, s2, hb, hF, hEr, hN, hI, hS, hnd⟩ := h
  obtain ⟨β', k1, k2, k3, kB⟩ := M.locs b _ hb
  rw [hβ] at k1
  injection k1 with k1
  subst k1
  obtain ⟨bm, j1, j2, j3, jB⟩ := M.locs mb _ hN
  have p1 := hF.plain1
  obtain ⟨t, arr, q1, q2, q3, q4, q5⟩ := kB.plain (by simpa [plainB] using p1)
  obtain ⟨x2, g1, g2⟩ := reps_take_get q3 (i := 1) (c := c2) rfl
  obtain ⟨x3, g3, g4⟩ := reps_take_get q3 (i := 2) (c := .mapp mb) rfl
  cases g4 with
  | mapp g4 =>
  rw [j1] at g4
  injection g4 with g4
  subst g4
  have hlenN : N.length = (lives E).length := by rw [← hI.perm.length_eq, List.length_map]
  have hliv : (lives E).length ≤ E.length := by
    unfold lives
    exact Nat.le_trans (List.length_filter_le _ _) (by rw [List.length_range]; exact Nat.le_refl _)
  have hown : w.ownsMap Try.prog 9 (plainElem Try.prog 3) bm N.length (DN N) := by
    cases jB with
    | dead h => simp at h
    | cells h1 h2 h3 h4 h5 =>
      obtain ⟨x, _, hx⟩ := reps_take_get h3 (i := 0) (c := .ent (nmI N)) rfl
      cases hx
    | ent h1 h2 h3 h4 h5 =>
      simp only [List.cons.injEq, AV.ent.injEq, and_true] at h1
      subst h1
      refine own_nm h2 h3 hI.nnd (fun p hp => ?_) (fun p hp => ?_) (by unfold maxLen; omega)
      · obtain ⟨u, hu, _⟩ := (hI.nmem p.1 p.2).1 hp
        exact hts (p.1, u) (List.mem_of_getElem? hu)
      · obtain ⟨u, hu, _⟩ := (hI.nmem p.1 p.2).1 hp
        have := (List.getElem?_eq_some_iff.1 hu).1
        omega
  have hen : ∃ a cap, x2 = .slice a E.length cap ∧ ∀ (i : Nat) (hi : i < E.length), ∃ be oe, a = some ⟨be, oe, none⟩ ∧ be < w.heap.size ∧ w.cell? ⟨be, oe + i * 2, none⟩ = some (.string E[i].1) := by
    rcases hEr with ⟨rfl, rfl, _⟩ | ⟨hh, L, rfl, _, hL, hEL⟩
    · cases g2 with
      | c g2 =>
        cases g2 with
        | sl => exact ⟨_, _, rfl, fun i hi => absurd hi (by simp)⟩
    · cases g2 with
      | lsl hl ho hn hc hr =>
        refine ⟨_, _, rfl, fun i hi => ?_⟩
        have ho := ho (by omega)
        obtain ⟨γ, l1, l2, l3, lB⟩ := M.locs hh _ hL
        rw [hl] at l1
        injection l1 with l1
        subst l1
        refine ⟨_, _, rfl, l3, ?_⟩
        obtain ⟨t2, arr2, e1, e2, e3, e4, e5⟩ := lB.plain plainB_blC
        have hkL : i < L.length := by
          have := congrArg List.length hEL
          rw [List.length_take] at this
          omega
        obtain ⟨x, f1, f2⟩ := reps_take_get e3 (i := i * 2) (c := sA L[i].1) (en_get0 hkL)
        rw [take_get hEL hi hkL]
        subst ho
        cases f2 with
        | c f2 =>
          cases f2 with
          | v f2 =>
            refine cell_of_heap e1 ?_
            simpa using f1
  obtain ⟨a, cap, rfl, hen⟩ := hen
  refine ⟨bm, a, cap, N, fun w' hb' Bt hBt hbox => ⟨hbox, hBt, Nat.lt_of_lt_of_le k3 hb'.size, (hb'.cell (p := ⟨β, 1, none⟩) k3).trans (cell_of_heap q1 g1), (hb'.cell (p := ⟨β, 2, none⟩) k3).trans (cell_of_heap q1 g3), fun i hi => ?_, ?_, hI.nnd, hI.perm, by omega, fun i hi => ?_⟩⟩
  · obtain ⟨be, oe, h1, h2, h3⟩ := hen i hi
    exact ⟨be, oe, h1, Nat.lt_of_lt_of_le h2 hb'.size, (hb'.cell (p := ⟨be, oe + i * 2, none⟩) h2).trans h3⟩
  · obtain ⟨es, clock, h1, Ft, hs, hD⟩ := hown
    exact ⟨es, clock, (hb'.block bm j3).trans h1, Ft, hs, hD⟩
  · obtain ⟨e, he, _⟩ := mem_lives.1 hi
    exact (List.getElem?_eq_some_iff.1 he).1

/-- **entries**: what a table holds, in order. -/
theorem entries_gives {m : Mm} {b : Nat} {E : List Ent} {S : List Nat} (h : TabM m b E S) (hE : E.length ≤ 1000) (hts : ∀ e ∈ E, e.1.size ≤ maxLen) {most : Nat} (hm : (lives E).length ≤ most) (hm2 : most ≤ 1000000) :
    GivesW Try.prog 24 [.ptr b 0, iA (most : Nat)] m (.tup [.c (.sl (decide (exL E = [])) (exL E).length ((exL E).flatMap exC)), bA true]) m := by
  refine ⟨enters_of Try.func24 (by kernel_rfl) rfl, fun X W0 w vs M hr => ?_⟩
  obtain ⟨hl, hv⟩ := hr
  match hvs : vs.toList, hl with
  | [x1, x2], hl2 =>
  rw [hvs] at hv
  have r1 := hv 0 _ x1 rfl rfl
  have r2 := hv 1 _ x2 rfl rfl
  cases r1 with
  | ptr hβ =>
  rename_i β
  cases r2 with
  | c r2 =>
  cases r2 with
  | v r2 =>
  have hvs2 : vs = #[.pointer (some ⟨β, 0, none⟩), .int .i64 (most : Nat)] := Array.ext' hvs
  rw [hvs2]
  obtain ⟨bm, a, cap, N, hT⟩ := tw_of h hE hts M hβ
  refine (callsIn_wide.1 (entries_in 20 (by decide) β bm a cap E N w most hm hm2 hT)).mono ?_
  rintro e w' ⟨v, rfl, hrow, hnil, hbel⟩
  have M1 := M.grow hbel
  rcases hrow.2 with ⟨rfl, hk⟩ | ⟨g, cp, cur, rfl, hgb, hgg, s1, s2, s3, s4⟩
  · have he := hnil.1 rfl
    rw [he]
    refine ⟨_, X, rfl, Mem.Le.refl _ _, .tup rfl fun i c x h1 h2 => ?_, M1⟩
    match i with
    | 0 => simp at h1 h2; subst h1 h2; exact .c (.sl (xs := []) rfl (fun i c x h => by cases h) (Nat.le_refl _) ⟨by decide, fun _ => rfl⟩ (fun _ => rfl) (fun j x h => by cases h))
    | 1 => simp at h1 h2; subst h1 h2; exact .c (.v rfl)
    | i + 2 => simp at h1
  · have hne : decide (exL E = []) = false := decide_eq_false fun e => by have := hnil.2 e; cases this
    rw [hne]
    have hgW : W0.heap.size ≤ g := Nat.le_trans M.below.size hgb
    have hC : ∀ o, X.cell g o = none := fun o => by
      cases hx : X.cell g o with
      | none => rfl
      | some x =>
        have := M.cell g o x hx
        have hlt : g < w.heap.size := by
          unfold World.cell? at this
          cases hw : w.heap[g]? with
          | none => simp [hw] at this
          | some ob => exact (Array.getElem?_eq_some_iff.1 hw).1
        omega
    have M2 := M1.claim (xs := (exL E).flatMap exV) hgW hC (fun i e => by have := (M.locBlock e).1; omega) (fun k T e => by have := (M.tokBlock e).1; omega) (fun o x hx => by
      refine cell_of_heap hgg ?_
      rw [← s4, List.getElem?_take] at hx
      split at hx
      · simpa using hx
      · cases hx)
    refine ⟨_, _, rfl, Mem.le_claim hC hgW, .tup rfl fun i c x h1 h2 => ?_, M2⟩
    match i with
    | 0 =>
      simp at h1 h2
      subst h1 h2
      refine .c (.sl (exV_flat_rep (fun _ _ => none) _).1 (exV_flat_rep _ _).2 s1 ⟨s2, fun e => by cases e⟩ (fun e => by cases e) (fun j x hx => ⟨_, _, rfl, ?_⟩))
      simp only [Mem.claim, Nat.zero_add, if_true]
      exact hx
    | 1 => simp at h1 h2; subst h1 h2; exact .c (.v rfl)
    | i + 2 => simp at h1
end Go.Proofs.Ytlhlcfijpdknfaa

/-
  Chapter 2, the document's answer: Take, Drop.
-/
set_option linter.unusedSimpArgs false
set_option linter.unusedVariables false
namespace Go.Proofs.Ytlhlcfijpdknfaa
open Go.Vs Go.Vs.Ab Go.Vs.Hp Go.Vs.Tb
set_option maxRecDepth 100000
set_option maxHeartbeats 4000000

theorem txE_set (E : List Ent) (k : Nat) (x : Ent) : txE (E.set k x) = (txE E).set k x.1 := by simp [txE, List.map_set]
theorem usE_set (E : List Ent) (k : Nat) (x : Ent) : usE (E.set k x) = (usE E).set k (x.2 : Int) := by simp [usE, List.map_set]
theorem set_same {T : Type} {l : List T} {k : Nat} (h : k < l.length) {x : T} (hx : l[k] = x) : l.set k x = l := by
  apply List.ext_getElem
  · simp
  · intro i h1 h2
    rw [List.getElem_set]
    split
    · rename_i e; subst e; exact hx.symm
    · rfl
theorem ref_disj {b : Nat} {s1 s2 : List Nat} (h : (b :: (s1 ++ s2)).Nodup) : b ∉ s1 ∧ b ∉ s2 ∧ ∀ i ∈ s1, i ∉ s2 := by
  simp only [List.nodup_cons, List.mem_append, not_or, List.nodup_append] at h
  exact ⟨h.1.1, h.1.2, fun i hi h2 => h.2.2.2 i hi i h2 rfl⟩

theorem rtake_bad {m : Mm} {b : Nat} {E : List Ent} {S : List Nat} (h : RefM m b E S) {s : ByteArray} (hs : s.size < 1 ∨ 255 < s.size) : GivesW Try.prog 20 [.ptr b 0, sA s] m (.tup [iA 0, iA 2]) m := by
  cases h1 : decide ((s.size : Int) < 1) with
  | true =>
    refine givesW_of' Try.func20 rfl (by kernel_rfl) Try.ntmps20 rfl rfl fun Q hQ => ?_
    repeat (first
        | refine tr_seq_k fun _ _ => ?_
        | (refine tr_region ?_; simp only [go_sem, List.getElem?_toArray, str_beq, reduceCtorEq, Nat.reduceEqDiff, Nat.reduceLT, Nat.reduceLeDiff, Nat.reduceAdd, Nat.reduceMul, Nat.reduceSub, Nat.reduceBEq, ↓reduceIte, bne_self_eq_false, Bool.and_false, Bool.false_and, Bool.true_or, Bool.false_or, h1])
        | refine k_of (by assumption) ?_
        | refine tr_block ?_
        | refine tr_scope ?_
        | (refine tr_skip ?_; try simp only [ex_seq, ex_block])
        | (refine tr_label ?_; try simp only [ex_seq, ex_block])
        | (refine tr_exit ?_; try simp only [ex_seq_exit, ex_block_exit, Nat.reduceEqDiff, if_true, if_false, ex_seq, ex_block, reduceCtorEq, ↓reduceIte])
        | (refine tr_ret ?_; try simp only [ex_seq_ret, ex_block_ret]))
    refine tr_cond rfl (fun ht => ?_) (fun hf => ?_)
    · repeat (first
          | refine tr_seq_k fun _ _ => ?_
          | (refine tr_region ?_; simp only [go_sem, List.getElem?_toArray, str_beq, reduceCtorEq, Nat.reduceEqDiff, Nat.reduceLT, Nat.reduceLeDiff, Nat.reduceAdd, Nat.reduceMul, Nat.reduceSub, Nat.reduceBEq, ↓reduceIte, bne_self_eq_false, Bool.and_false, Bool.false_and, Bool.true_or, Bool.false_or])
          | refine k_of (by assumption) ?_
          | refine tr_block ?_
          | refine tr_scope ?_
          | (refine tr_skip ?_; try simp only [ex_seq, ex_block])
          | (refine tr_label ?_; try simp only [ex_seq, ex_block])
          | (refine tr_exit ?_; try simp only [ex_seq_exit, ex_block_exit, Nat.reduceEqDiff, if_true, if_false, ex_seq, ex_block, reduceCtorEq, ↓reduceIte])
          | (refine tr_ret ?_; try simp only [ex_seq_ret, ex_block_ret]))
      refine (hQ _ _ [iA 0, iA 2] ?_ rfl rfl).2 <;> simp only [go_sem, List.getElem?_toArray, str_beq, reduceCtorEq, Nat.reduceEqDiff, Nat.reduceLT, Nat.reduceLeDiff, Nat.reduceAdd, Nat.reduceMul, Nat.reduceSub, Nat.reduceBEq, ↓reduceIte, bne_self_eq_false, Bool.and_false, Bool.false_and, Bool.true_or, Bool.false_or, Try.f20]
    · cases hf
  | false =>
    have h2 : decide ((255 : Int) < (s.size : Nat)) = true := decide_eq_true (by have := of_decide_eq_false h1; omega)
    refine givesW_of' Try.func20 rfl (by kernel_rfl) Try.ntmps20 rfl rfl fun Q hQ => ?_
    repeat (first
        | refine tr_seq_k fun _ _ => ?_
        | (refine tr_region ?_; simp only [go_sem, List.getElem?_toArray, str_beq, reduceCtorEq, Nat.reduceEqDiff, Nat.reduceLT, Nat.reduceLeDiff, Nat.reduceAdd, Nat.reduceMul, Nat.reduceSub, Nat.reduceBEq, ↓reduceIte, bne_self_eq_false, Bool.and_false, Bool.false_and, Bool.true_or, Bool.false_or, h1, h2])
        | refine k_of (by assumption) ?_
        | refine tr_block ?_
        | refine tr_scope ?_
        | (refine tr_skip ?_; try simp only [ex_seq, ex_block])
        | (refine tr_label ?_; try simp only [ex_seq, ex_block])
        | (refine tr_exit ?_; try simp only [ex_seq_exit, ex_block_exit, Nat.reduceEqDiff, if_true, if_false, ex_seq, ex_block, reduceCtorEq, ↓reduceIte])
        | (refine tr_ret ?_; try simp only [ex_seq_ret, ex_block_ret]))
    refine tr_cond rfl (fun ht => ?_) (fun hf => ?_)
    · repeat (first
          | refine tr_seq_k fun _ _ => ?_
          | (refine tr_region ?_; simp only [go_sem, List.getElem?_toArray, str_beq, reduceCtorEq, Nat.reduceEqDiff, Nat.reduceLT, Nat.reduceLeDiff, Nat.reduceAdd, Nat.reduceMul, Nat.reduceSub, Nat.reduceBEq, ↓reduceIte, bne_self_eq_false, Bool.and_false, Bool.false_and, Bool.true_or, Bool.false_or])
          | refine k_of (by assumption) ?_
          | refine tr_block ?_
          | refine tr_scope ?_
          | (refine tr_skip ?_; try simp only [ex_seq, ex_block])
          | (refine tr_label ?_; try simp only [ex_seq, ex_block])
          | (refine tr_exit ?_; try simp only [ex_seq_exit, ex_block_exit, Nat.reduceEqDiff, if_true, if_false, ex_seq, ex_block, reduceCtorEq, ↓reduceIte])
          | (refine tr_ret ?_; try simp only [ex_seq_ret, ex_block_ret]))
      refine (hQ _ _ [iA 0, iA 2] ?_ rfl rfl).2 <;> simp only [go_sem, List.getElem?_toArray, str_beq, reduceCtorEq, Nat.reduceEqDiff, Nat.reduceLT, Nat.reduceLeDiff, Nat.reduceAdd, Nat.reduceMul, Nat.reduceSub, Nat.reduceBEq, ↓reduceIte, bne_self_eq_false, Bool.and_false, Bool.false_and, Bool.true_or, Bool.false_or, Try.f20]
    · cases hf

theorem rtake_found {m : Mm} {b : Nat} {E : List Ent} {S : List Nat} (h : RefM m b E S) (hW : Wf m) (hM : E.length ≤ 1000) {s : ByteArray} {n : Nat} (hs : ¬ (s.size < 1 ∨ 255 < s.size)) (hf : findS E s = some n) (hU : ∀ e ∈ E, e.2 ≤ 100000) :
    ∃ m', GivesW Try.prog 20 [.ptr b 0, sA s] m (.tup [iA (n : Nat), iA 0]) m' ∧ RefM m' b (E.set n (s, (E.getD n (emp, 0)).2 + 1)) S ∧ Kp m m' S S := by
  have cf := rfind_gives h hW hM s
  rw [hf] at cf
  have cf : GivesW Try.prog 23 [.ptr b 0, sA s] m (.tup [iA (n : Nat), bA true]) m := cf
  obtain ⟨c1, c2, s1, s2, hb, hT, hR, hS, hnd⟩ := h
  have h1 : decide ((s.size : Int) < 1) = false := decide_eq_false (by omega)
  have h2 : decide ((255 : Int) < (s.size : Nat)) = false := decide_eq_false (by omega)
  obtain ⟨hse, hn, u, hu⟩ := findS_some hf
  have p1 := hT.plain1
  obtain ⟨h, L, rfl, rfl, hL, hEL, hkL, hg⟩ := row_getG hR (k := n) (by rw [usE_len]; exact hn)
  have he : E[n] = (s, u) := (List.getElem?_eq_some_iff.1 hu).2
  have hgu : L[n] = (u : Int) := by rw [hg, usE_get, he]
  have hub : u ≤ 100000 := by
    have := hU _ (List.getElem_mem hn)
    rw [he] at this
    exact this
  have i1 := in_idx Try.underlying55 (b := h) (n := (usE E).length) (i := n) (by rw [usE_len]; exact hn)
  have g1 := in_get hkL
  rw [hgu] at g1
  have w1 : IntKind.i64.wrap ((u : Int) + 1) = ((u + 1 : Nat) : Int) := wrap_succ (by omega)
  have f1 := in_fit hkL
  have e1 := in_set hkL ((u + 1 : Nat) : Int)
  subst hS
  have hd := ref_disj hnd
  have hhl := (List.getElem?_eq_some_iff.1 hL).1
  have hhb : h ≠ b := fun e => hd.2.1 (by simp [e])
  have hk := Kp.stB (i := h) (S := b :: (s1 ++ [h])) hW (by simp) (nb := ⟨false, blC inC (L.set n ((u + 1 : Nat) : Int))⟩) lows_blC
  refine ⟨setB m h ⟨false, blC inC (L.set n ((u + 1 : Nat) : Int))⟩, ?_, ?_, hk⟩
  · refine givesW_of' Try.func20 rfl (by kernel_rfl) Try.ntmps20 rfl rfl fun Q hQ => ?_
    repeat (first
        | refine tr_seq_k fun _ _ => ?_
        | (refine tr_region ?_; simp only [go_sem, List.getElem?_toArray, str_beq, reduceCtorEq, Nat.reduceEqDiff, Nat.reduceLT, Nat.reduceLeDiff, Nat.reduceAdd, Nat.reduceMul, Nat.reduceSub, Nat.reduceBEq, ↓reduceIte, bne_self_eq_false, Bool.and_false, Bool.false_and, Bool.true_or, Bool.false_or, h1, h2])
        | refine k_of (by assumption) ?_
        | refine tr_block ?_
        | refine tr_scope ?_
        | (refine tr_skip ?_; try simp only [ex_seq, ex_block])
        | (refine tr_label ?_; try simp only [ex_seq, ex_block])
        | (refine tr_exit ?_; try simp only [ex_seq_exit, ex_block_exit, Nat.reduceEqDiff, if_true, if_false, ex_seq, ex_block, reduceCtorEq, ↓reduceIte])
        | (refine tr_ret ?_; try simp only [ex_seq_ret, ex_block_ret]))
    refine tr_cond rfl (fun ht => ?_) (fun hf => ?_)
    · cases ht
    · repeat (first
          | refine tr_seq_k fun _ _ => ?_
          | (refine tr_region ?_; simp only [go_sem, List.getElem?_toArray, str_beq, reduceCtorEq, Nat.reduceEqDiff, Nat.reduceLT, Nat.reduceLeDiff, Nat.reduceAdd, Nat.reduceMul, Nat.reduceSub, Nat.reduceBEq, ↓reduceIte, bne_self_eq_false, Bool.and_false, Bool.false_and, Bool.true_or, Bool.false_or])
          | (refine call_givesW (cf) ?_; (try dsimp only); (try simp only [go_sem, List.getElem?_toArray, str_beq, reduceCtorEq, Nat.reduceEqDiff, Nat.reduceLT, Nat.reduceLeDiff, Nat.reduceAdd, Nat.reduceMul, Nat.reduceSub, Nat.reduceBEq, ↓reduceIte, bne_self_eq_false, Bool.and_false, Bool.false_and, Bool.true_or, Bool.false_or]))
          | refine k_of (by assumption) ?_
          | refine tr_block ?_
          | refine tr_scope ?_
          | (refine tr_skip ?_; try simp only [ex_seq, ex_block])
          | (refine tr_label ?_; try simp only [ex_seq, ex_block])
          | (refine tr_exit ?_; try simp only [ex_seq_exit, ex_block_exit, Nat.reduceEqDiff, if_true, if_false, ex_seq, ex_block, reduceCtorEq, ↓reduceIte])
          | (refine tr_ret ?_; try simp only [ex_seq_ret, ex_block_ret]))
      refine tr_cond rfl (fun ht => ?_) (fun hf => ?_)
      · repeat (first
            | refine tr_seq_k fun _ _ => ?_
            | (refine tr_region ?_; simp only [go_sem, List.getElem?_toArray, str_beq, reduceCtorEq, Nat.reduceEqDiff, Nat.reduceLT, Nat.reduceLeDiff, Nat.reduceAdd, Nat.reduceMul, Nat.reduceSub, Nat.reduceBEq, ↓reduceIte, bne_self_eq_false, Bool.and_false, Bool.false_and, Bool.true_or, Bool.false_or, hb, p1, hL, i1, g1, w1, f1, e1, setB_eq])
            | refine k_of (by assumption) ?_
            | refine tr_block ?_
            | refine tr_scope ?_
            | (refine tr_skip ?_; try simp only [ex_seq, ex_block])
            | (refine tr_label ?_; try simp only [ex_seq, ex_block])
            | (refine tr_exit ?_; try simp only [ex_seq_exit, ex_block_exit, Nat.reduceEqDiff, if_true, if_false, ex_seq, ex_block, reduceCtorEq, ↓reduceIte])
            | (refine tr_ret ?_; try simp only [ex_seq_ret, ex_block_ret]))
        refine (hQ _ _ [iA (n : Nat), iA 0] ?_ rfl rfl).2 <;> simp only [go_sem, List.getElem?_toArray, str_beq, reduceCtorEq, Nat.reduceEqDiff, Nat.reduceLT, Nat.reduceLeDiff, Nat.reduceAdd, Nat.reduceMul, Nat.reduceSub, Nat.reduceBEq, ↓reduceIte, bne_self_eq_false, Bool.and_false, Bool.false_and, Bool.true_or, Bool.false_or, Try.f20]
      · cases hf
  · rw [getD_at hn, he]
    refine ⟨c1, .lsl h 0 (usE E).length 1, s1, [h], ?_, ?_, ?_, rfl, hnd⟩
    · rw [setB_ne hhb]; exact hb
    · rw [txE_set, set_same (l := txE E) (k := n) (by rw [txE_len]; exact hn) (by rw [txE_get, he])]
      exact hT.keep (Kp.stB (i := h) (S := [h]) (nb := ⟨false, blC inC (L.set n ((u + 1 : Nat) : Int))⟩) hW (by simp) lows_blC) (fun i hi h2 => hd.2.2 i hi h2)
    · rw [usE_set]
      exact Or.inr ⟨h, _, by rw [List.length_set], rfl, setB_self hhl _, take_set hEL (by rw [usE_len]; exact hn) _⟩

/-- Where the loop for a free number stops. -/
theorem leastF_stop {E : List Ent} {k : Nat} (hk : k ≤ E.length) (h : ∀ j (hj : j < k) (hE : j < E.length), (E[j]).1 ≠ emp) (he : ∀ hk : k < E.length, (E[k]).1 = emp) : leastF E = k := leastF_of hk he fun j hj => h j hj (by omega)

theorem info_str : info3 Try.prog 9 = some (1, 16) := by kernel_rfl
theorem build1T (s : ByteArray) : aBuildSlice Try.prog 54 1 [(0, sA s)] = some [.v (.string s)] := build1 Try.underlying54 sz9 ze9 (by decide) (by decide) (by decide) rfl rfl
theorem build1J (x : Int) : aBuildSlice Try.prog 55 1 [(0, iA x)] = some [.v (.int .i64 x)] := build1 Try.underlying55 sz3 ze3 (by decide) (by decide) (by decide) rfl rfl
attribute [go_sem] build1T build1J
theorem rdrop_gives {m : Mm} {b : Nat} {E : List Ent} {S : List Nat} (h : RefM m b E S) (hW : Wf m) (n : Int) (hM : E.length ≤ 1000) (hU : ∀ e ∈ E, e.2 ≤ 100000) (hz : ∀ e ∈ E, e.1 ≠ emp → 0 < e.2) :
    ∃ m', GivesW Try.prog 21 [.ptr b 0, iA n] m (iA (dropS E n).1) m' ∧ RefM m' b (dropS E n).2 S ∧ Kp m m' S S := by
  have hh := rhas_gives h n
  have htab := h
  obtain ⟨c1, c2, s1, s2, hb, hT, hR, hS, hnd⟩ := h
  have p1 := hT.plain1
  unfold dropS
  cases h0 : hasS E n with
  | false =>
    rw [h0] at hh
    refine ⟨m, ?_, htab, Kp.refl hW S⟩
    refine givesW_of' Try.func21 rfl (by kernel_rfl) Try.ntmps21 rfl rfl fun Q hQ => ?_
    repeat (first
        | refine tr_seq_k fun _ _ => ?_
        | (refine tr_region ?_; simp only [go_sem, List.getElem?_toArray, str_beq, reduceCtorEq, Nat.reduceEqDiff, Nat.reduceLT, Nat.reduceLeDiff, Nat.reduceAdd, Nat.reduceMul, Nat.reduceSub, Nat.reduceBEq, ↓reduceIte, bne_self_eq_false, Bool.and_false, Bool.false_and, Bool.true_or, Bool.false_or])
        | (refine call_givesW (hh) ?_; (try dsimp only); (try simp only [go_sem, List.getElem?_toArray, str_beq, reduceCtorEq, Nat.reduceEqDiff, Nat.reduceLT, Nat.reduceLeDiff, Nat.reduceAdd, Nat.reduceMul, Nat.reduceSub, Nat.reduceBEq, ↓reduceIte, bne_self_eq_false, Bool.and_false, Bool.false_and, Bool.true_or, Bool.false_or]))
        | refine k_of (by assumption) ?_
        | refine tr_block ?_
        | refine tr_scope ?_
        | (refine tr_skip ?_; try simp only [ex_seq, ex_block])
        | (refine tr_label ?_; try simp only [ex_seq, ex_block])
        | (refine tr_exit ?_; try simp only [ex_seq_exit, ex_block_exit, Nat.reduceEqDiff, if_true, if_false, ex_seq, ex_block, reduceCtorEq, ↓reduceIte])
        | (refine tr_ret ?_; try simp only [ex_seq_ret, ex_block_ret]))
    refine tr_cond rfl (fun ht => ?_) (fun hf => ?_)
    · repeat (first
          | refine tr_seq_k fun _ _ => ?_
          | (refine tr_region ?_; simp only [go_sem, List.getElem?_toArray, str_beq, reduceCtorEq, Nat.reduceEqDiff, Nat.reduceLT, Nat.reduceLeDiff, Nat.reduceAdd, Nat.reduceMul, Nat.reduceSub, Nat.reduceBEq, ↓reduceIte, bne_self_eq_false, Bool.and_false, Bool.false_and, Bool.true_or, Bool.false_or])
          | refine k_of (by assumption) ?_
          | refine tr_block ?_
          | refine tr_scope ?_
          | (refine tr_skip ?_; try simp only [ex_seq, ex_block])
          | (refine tr_label ?_; try simp only [ex_seq, ex_block])
          | (refine tr_exit ?_; try simp only [ex_seq_exit, ex_block_exit, Nat.reduceEqDiff, if_true, if_false, ex_seq, ex_block, reduceCtorEq, ↓reduceIte])
          | (refine tr_ret ?_; try simp only [ex_seq_ret, ex_block_ret]))
      refine (hQ _ _ [iA 13] ?_ rfl rfl).2 <;> simp only [go_sem, List.getElem?_toArray, str_beq, reduceCtorEq, Nat.reduceEqDiff, Nat.reduceLT, Nat.reduceLeDiff, Nat.reduceAdd, Nat.reduceMul, Nat.reduceSub, Nat.reduceBEq, ↓reduceIte, bne_self_eq_false, Bool.and_false, Bool.false_and, Bool.true_or, Bool.false_or, Try.f21]
    · cases hf
  | true =>
    rw [h0] at hh
    obtain ⟨k, rfl, hk, hne⟩ := hasS_spec h0
    obtain ⟨h, L, rfl, rfl, hL, hEL, hkL, hg⟩ := row_getG hR (k := k) (by rw [usE_len]; exact hk)
    obtain ⟨h', L', rfl, rfl, hL', hEL', hkL', hg'⟩ := row_getG hT (k := k) (by rw [txE_len]; exact hk)
    obtain ⟨u, hu⟩ : ∃ u, u = (E[k]).2 := ⟨_, rfl⟩
    have hu0 : 0 < u := by rw [hu]; exact hz _ (List.getElem_mem hk) hne
    have hub : u ≤ 100000 := by rw [hu]; exact hU _ (List.getElem_mem hk)
    have hgu : L[k] = (u : Int) := by rw [hg, usE_get, hu]
    have i1 := in_idx Try.underlying55 (b := h) (n := (usE E).length) (i := k) (by rw [usE_len]; exact hk)
    have g1 := in_get hkL
    rw [hgu] at g1
    have w1 : IntKind.i64.wrap ((u : Int) - 1) = ((u - 1 : Nat) : Int) := wrap_pred hu0 (by omega)
    have f1 := in_fit hkL
    have e1 := in_set hkL ((u - 1 : Nat) : Int)
    have g2 : (blC inC (L.set k ((u - 1 : Nat) : Int)))[k]? = some (iA ((u - 1 : Nat) : Int)) := by
      have := in_get (l := L.set k ((u - 1 : Nat) : Int)) (i := k) (by rw [List.length_set]; exact hkL)
      rw [List.getElem_set_self] at this
      exact this
    subst hS
    have hd := ref_disj hnd
    have hhl := (List.getElem?_eq_some_iff.1 hL).1
    have hhl' := (List.getElem?_eq_some_iff.1 hL').1
    have hhb : h ≠ b := fun e => hd.2.1 (by simp [e])
    have hhb' : h' ≠ b := fun e => hd.1 (by simp [e])
    have hhh : h' ≠ h := fun e => hd.2.2 h' (by simp) (by simp [e])
    have k1 : Kp m (setB m h ⟨false, blC inC (L.set k ((u - 1 : Nat) : Int))⟩) (b :: ([h'] ++ [h])) (b :: ([h'] ++ [h])) := Kp.stB (i := h) hW (by simp) lows_blC
    have gb1 : ∀ x, (setB m h x).hp[b]? = some ⟨false, [.lsl h' 0 (txE E).length 1, .lsl h 0 (usE E).length 1]⟩ := fun x => by rw [setB_ne hhb]; exact hb
    have gh1 : ∀ x, (setB m h x).hp[h]? = some x := fun x => setB_self hhl x
    have gt1 : ∀ x, (setB m h x).hp[h']? = some ⟨false, blC stC L'⟩ := fun x => by rw [setB_ne (Ne.symm hhh)]; exact hL'
    rw [if_pos rfl, Int.toNat_natCast, getD_at hk, ← hu]
    cases h5 : (((u - 1 : Nat) : Int) == 0) with
    | false =>
      have h5' : u ≠ 1 := fun e => by
        rw [e] at h5
        cases h5
      rw [if_neg h5']
      refine ⟨_, ?_, ?_, k1⟩
      · refine givesW_of' Try.func21 rfl (by kernel_rfl) Try.ntmps21 rfl rfl fun Q hQ => ?_
        repeat (first
            | refine tr_seq_k fun _ _ => ?_
            | (refine tr_region ?_; simp only [go_sem, List.getElem?_toArray, str_beq, reduceCtorEq, Nat.reduceEqDiff, Nat.reduceLT, Nat.reduceLeDiff, Nat.reduceAdd, Nat.reduceMul, Nat.reduceSub, Nat.reduceBEq, ↓reduceIte, bne_self_eq_false, Bool.and_false, Bool.false_and, Bool.true_or, Bool.false_or])
            | (refine call_givesW (hh) ?_; (try dsimp only); (try simp only [go_sem, List.getElem?_toArray, str_beq, reduceCtorEq, Nat.reduceEqDiff, Nat.reduceLT, Nat.reduceLeDiff, Nat.reduceAdd, Nat.reduceMul, Nat.reduceSub, Nat.reduceBEq, ↓reduceIte, bne_self_eq_false, Bool.and_false, Bool.false_and, Bool.true_or, Bool.false_or]))
            | refine k_of (by assumption) ?_
            | refine tr_block ?_
            | refine tr_scope ?_
            | (refine tr_skip ?_; try simp only [ex_seq, ex_block])
            | (refine tr_label ?_; try simp only [ex_seq, ex_block])
            | (refine tr_exit ?_; try simp only [ex_seq_exit, ex_block_exit, Nat.reduceEqDiff, if_true, if_false, ex_seq, ex_block, reduceCtorEq, ↓reduceIte])
            | (refine tr_ret ?_; try simp only [ex_seq_ret, ex_block_ret]))
        refine tr_cond rfl (fun ht => ?_) (fun hf => ?_)
        · cases ht
        · repeat (first
              | refine tr_seq_k fun _ _ => ?_
              | (refine tr_region ?_; simp only [go_sem, List.getElem?_toArray, str_beq, reduceCtorEq, Nat.reduceEqDiff, Nat.reduceLT, Nat.reduceLeDiff, Nat.reduceAdd, Nat.reduceMul, Nat.reduceSub, Nat.reduceBEq, ↓reduceIte, bne_self_eq_false, Bool.and_false, Bool.false_and, Bool.true_or, Bool.false_or, hb, hL, i1, g1, w1, f1, e1, setB_eq, gb1, gh1, g2, h5])
              | refine k_of (by assumption) ?_
              | refine tr_block ?_
              | refine tr_scope ?_
              | (refine tr_skip ?_; try simp only [ex_seq, ex_block])
              | (refine tr_label ?_; try simp only [ex_seq, ex_block])
              | (refine tr_exit ?_; try simp only [ex_seq_exit, ex_block_exit, Nat.reduceEqDiff, if_true, if_false, ex_seq, ex_block, reduceCtorEq, ↓reduceIte])
              | (refine tr_ret ?_; try simp only [ex_seq_ret, ex_block_ret]))
          refine tr_cond rfl (fun ht => ?_) (fun hf => ?_)
          · cases ht
          · repeat (first
                | refine tr_seq_k fun _ _ => ?_
                | (refine tr_region ?_; simp only [go_sem, List.getElem?_toArray, str_beq, reduceCtorEq, Nat.reduceEqDiff, Nat.reduceLT, Nat.reduceLeDiff, Nat.reduceAdd, Nat.reduceMul, Nat.reduceSub, Nat.reduceBEq, ↓reduceIte, bne_self_eq_false, Bool.and_false, Bool.false_and, Bool.true_or, Bool.false_or])
                | refine k_of (by assumption) ?_
                | refine tr_block ?_
                | refine tr_scope ?_
                | (refine tr_skip ?_; try simp only [ex_seq, ex_block])
                | (refine tr_label ?_; try simp only [ex_seq, ex_block])
                | (refine tr_exit ?_; try simp only [ex_seq_exit, ex_block_exit, Nat.reduceEqDiff, if_true, if_false, ex_seq, ex_block, reduceCtorEq, ↓reduceIte])
                | (refine tr_ret ?_; try simp only [ex_seq_ret, ex_block_ret]))
            refine (hQ _ _ [iA 0] ?_ rfl rfl).2 <;> simp only [go_sem, List.getElem?_toArray, str_beq, reduceCtorEq, Nat.reduceEqDiff, Nat.reduceLT, Nat.reduceLeDiff, Nat.reduceAdd, Nat.reduceMul, Nat.reduceSub, Nat.reduceBEq, ↓reduceIte, bne_self_eq_false, Bool.and_false, Bool.false_and, Bool.true_or, Bool.false_or, Try.f21]
      · refine ⟨.lsl h' 0 (txE E).length 1, .lsl h 0 (usE E).length 1, [h'], [h], gb1 _, ?_, ?_, rfl, hnd⟩
        · rw [txE_set, set_same (l := txE E) (k := k) (by rw [txE_len]; exact hk) (by rw [txE_get])]
          exact Or.inr ⟨h', L', rfl, rfl, gt1 _, hEL'⟩
        · rw [usE_set]
          exact Or.inr ⟨h, _, by rw [List.length_set], rfl, gh1 _, take_set hEL (by rw [usE_len]; exact hk) _⟩
    | true =>
      have h5' : u = 1 := by
        have := eq_of_beq h5
        omega
      rw [if_pos h5']
      have i2 := st_idx (b := h') (n := (txE E).length) (i := k) (by rw [txE_len]; exact hk)
      have f2 := st_fit hkL'
      have e2 := st_set hkL' ⟨#[]⟩
      have k2 := k1.put (i := h') (nb := ⟨false, blC stC (L'.set k ⟨#[]⟩)⟩) (by simp) lows_blC
      refine ⟨_, ?_, ?_, k2⟩
      · refine givesW_of' Try.func21 rfl (by kernel_rfl) Try.ntmps21 rfl rfl fun Q hQ => ?_
        repeat (first
            | refine tr_seq_k fun _ _ => ?_
            | (refine tr_region ?_; simp only [go_sem, List.getElem?_toArray, str_beq, reduceCtorEq, Nat.reduceEqDiff, Nat.reduceLT, Nat.reduceLeDiff, Nat.reduceAdd, Nat.reduceMul, Nat.reduceSub, Nat.reduceBEq, ↓reduceIte, bne_self_eq_false, Bool.and_false, Bool.false_and, Bool.true_or, Bool.false_or])
            | (refine call_givesW (hh) ?_; (try dsimp only); (try simp only [go_sem, List.getElem?_toArray, str_beq, reduceCtorEq, Nat.reduceEqDiff, Nat.reduceLT, Nat.reduceLeDiff, Nat.reduceAdd, Nat.reduceMul, Nat.reduceSub, Nat.reduceBEq, ↓reduceIte, bne_self_eq_false, Bool.and_false, Bool.false_and, Bool.true_or, Bool.false_or]))
            | refine k_of (by assumption) ?_
            | refine tr_block ?_
            | refine tr_scope ?_
            | (refine tr_skip ?_; try simp only [ex_seq, ex_block])
            | (refine tr_label ?_; try simp only [ex_seq, ex_block])
            | (refine tr_exit ?_; try simp only [ex_seq_exit, ex_block_exit, Nat.reduceEqDiff, if_true, if_false, ex_seq, ex_block, reduceCtorEq, ↓reduceIte])
            | (refine tr_ret ?_; try simp only [ex_seq_ret, ex_block_ret]))
        refine tr_cond rfl (fun ht => ?_) (fun hf => ?_)
        · cases ht
        · repeat (first
              | refine tr_seq_k fun _ _ => ?_
              | (refine tr_region ?_; simp only [go_sem, List.getElem?_toArray, str_beq, reduceCtorEq, Nat.reduceEqDiff, Nat.reduceLT, Nat.reduceLeDiff, Nat.reduceAdd, Nat.reduceMul, Nat.reduceSub, Nat.reduceBEq, ↓reduceIte, bne_self_eq_false, Bool.and_false, Bool.false_and, Bool.true_or, Bool.false_or, hb, hL, i1, g1, w1, f1, e1, setB_eq, gb1, gh1, g2, h5])
              | refine k_of (by assumption) ?_
              | refine tr_block ?_
              | refine tr_scope ?_
              | (refine tr_skip ?_; try simp only [ex_seq, ex_block])
              | (refine tr_label ?_; try simp only [ex_seq, ex_block])
              | (refine tr_exit ?_; try simp only [ex_seq_exit, ex_block_exit, Nat.reduceEqDiff, if_true, if_false, ex_seq, ex_block, reduceCtorEq, ↓reduceIte])
              | (refine tr_ret ?_; try simp only [ex_seq_ret, ex_block_ret]))
          refine tr_cond rfl (fun ht => ?_) (fun hf => ?_)
          · repeat (first
                | refine tr_seq_k fun _ _ => ?_
                | (refine tr_region ?_; simp only [go_sem, List.getElem?_toArray, str_beq, reduceCtorEq, Nat.reduceEqDiff, Nat.reduceLT, Nat.reduceLeDiff, Nat.reduceAdd, Nat.reduceMul, Nat.reduceSub, Nat.reduceBEq, ↓reduceIte, bne_self_eq_false, Bool.and_false, Bool.false_and, Bool.true_or, Bool.false_or, gb1, gt1, i2, f2, e2, setB_eq])
                | refine k_of (by assumption) ?_
                | refine tr_block ?_
                | refine tr_scope ?_
                | (refine tr_skip ?_; try simp only [ex_seq, ex_block])
                | (refine tr_label ?_; try simp only [ex_seq, ex_block])
                | (refine tr_exit ?_; try simp only [ex_seq_exit, ex_block_exit, Nat.reduceEqDiff, if_true, if_false, ex_seq, ex_block, reduceCtorEq, ↓reduceIte])
                | (refine tr_ret ?_; try simp only [ex_seq_ret, ex_block_ret]))
            refine (hQ _ _ [iA 0] ?_ rfl rfl).2 <;> simp only [go_sem, List.getElem?_toArray, str_beq, reduceCtorEq, Nat.reduceEqDiff, Nat.reduceLT, Nat.reduceLeDiff, Nat.reduceAdd, Nat.reduceMul, Nat.reduceSub, Nat.reduceBEq, ↓reduceIte, bne_self_eq_false, Bool.and_false, Bool.false_and, Bool.true_or, Bool.false_or, Try.f21]
          · cases hf
      · refine ⟨.lsl h' 0 (txE E).length 1, .lsl h 0 (usE E).length 1, [h'], [h], ?_, ?_, ?_, rfl, hnd⟩
        · rw [setB_ne hhb']; exact gb1 _
        · rw [txE_set]
          refine Or.inr ⟨h', _, by rw [List.length_set], rfl, setB_self (by rw [setB_len]; exact hhl') _, take_set hEL' (by rw [txE_len]; exact hk) _⟩
        · rw [usE_set]
          have e0 : ((u - 1 : Nat) : Int) = ((0 : Nat) : Int) := by omega
          refine Or.inr ⟨h, L.set k ((0 : Nat) : Int), by rw [List.length_set], rfl, ?_, take_set hEL (by rw [usE_len]; exact hk) _⟩
          rw [setB_ne hhh, gh1, e0]
end Go.Proofs.Ytlhlcfijpdknfaa
