/-
  Part 2 of the proof's own texts: general lemmas and contracts of functions, laid one behind the other.
-/
import Derived.Test.YtaeehadibckcjaaDoorPBm1
set_option linter.unusedSimpArgs false
set_option linter.unusedVariables false
namespace Go.Proofs.YtaeehadibckcjaaDoor
open Go.RowKit Go.Vs Go.Vs.Ab
set_option maxRecDepth 100000
set_option maxHeartbeats 4000000
def rdC (ex : Bool) (L : List Tk) (n : Int) (r : Rs) : List AV := [.c (.sl ex L.length (L.flatMap tkC)), iA r.i, iA n, iA r.at_, iA r.e]
abbrev rdB (ex : Bool) (L : List Tk) (n : Int) (r : Rs) : Blk := ⟨false, rdC ex L n r⟩
attribute [go_sem] rdC
theorem idxTk {ex : Bool} {L : List Tk} {k : Nat} (h : k < L.length) : aIndexAddr Tryd.prog 61 (.c (.sl ex L.length (L.flatMap tkC))) (.c (.v (.int .i64 (k : Int)))) = some (.cptr (tkC L[k] ++ (L.drop (k + 1)).flatMap tkC)) :=
  idx_R tkC 3 (fun _ => rfl) Tryd.underlying61 sz99 (by decide) h
variable {A : List Blk} {hw : List Hw} {b : Nat} {ex : Bool} {L : List Tk} {n : Int}
theorem fail_gives (hb : b < A.length) (r : Rs) (e : Int) (j : Nat) : GivesW Tryd.prog 62 [.ptr b 0, iA e, iA j] ⟨A.set b (rdB ex L n r), hw⟩ (.tup []) ⟨A.set b (rdB ex L n (r.fail L n e j)), hw⟩ := by
  have g := fun x => s_get (A := A) hb x
  cases d1 : decide (r.e = 0) with
  | false =>
    have hr : r.fail L n e j = r := if_neg (of_decide_eq_false d1)
    rw [hr]
    refine givesW_of' Tryd.func62 rfl (by kernel_rfl) Tryd.ntmps62 rfl rfl fun Q hQ => ?_
    repeat (first | refine tr_seq_k fun _ _ => ?_ | (refine tr_region ?_; simp only [go_sem, reduceCtorEq, Nat.reduceEqDiff, Nat.reduceLT, Nat.reduceLeDiff, Nat.reduceAdd, Nat.reduceMul, Nat.reduceSub, Nat.reduceBEq, ↓reduceIte, g, d1]) | refine k_of (by assumption) ?_)
    refine tr_cond rfl (fun ht => ?_) (fun hf => ?_)
    · repeat ((refine tr_ret ?_; try simp only [ex_seq_ret, ex_block_ret]))
      exact (hQ _ _ [] rfl rfl rfl).2
    · cases hf
  | true =>
    by_cases hj : j < L.length
    · have hr : r.fail L n e j = ⟨r.i, L[j].at_, e⟩ := by
        unfold Rs.fail
        rw [if_pos (of_decide_eq_true d1), List.getElem?_eq_getElem hj]
      have ix := idxTk (ex := ex) hj
      have d2 : decide ((j : Int) < (L.length : Nat)) = true := decide_eq_true (by omega)
      rw [hr]
      generalize L[j] = t at *
      refine givesW_of' Tryd.func62 rfl (by kernel_rfl) Tryd.ntmps62 rfl rfl fun Q hQ => ?_
      repeat (first | refine tr_seq_k fun _ _ => ?_ | (refine tr_region ?_; simp only [go_sem, reduceCtorEq, Nat.reduceEqDiff, Nat.reduceLT, Nat.reduceLeDiff, Nat.reduceAdd, Nat.reduceMul, Nat.reduceSub, Nat.reduceBEq, ↓reduceIte, g, d1]) | refine k_of (by assumption) ?_)
      refine tr_cond rfl (fun ht => ?_) (fun hf => ?_)
      · cases ht
      · repeat (first | refine tr_seq_k fun _ _ => ?_ | (refine tr_region ?_; simp only [go_sem, reduceCtorEq, Nat.reduceEqDiff, Nat.reduceLT, Nat.reduceLeDiff, Nat.reduceAdd, Nat.reduceMul, Nat.reduceSub, Nat.reduceBEq, ↓reduceIte, g, s_set, d2]) | refine k_of (by assumption) ?_ | (refine tr_skip ?_; try simp only [ex_seq, ex_block]))
        refine tr_cond rfl (fun ht => ?_) (fun hf => ?_)
        · repeat ((refine tr_region ?_; simp only [go_sem, reduceCtorEq, Nat.reduceEqDiff, Nat.reduceLT, Nat.reduceLeDiff, Nat.reduceAdd, Nat.reduceMul, Nat.reduceSub, Nat.reduceBEq, ↓reduceIte, g, s_set, ix]))
          exact (hQ _ _ [] rfl rfl rfl).1
        · cases hf
    · have hr : r.fail L n e j = ⟨r.i, n, e⟩ := by
        unfold Rs.fail
        rw [if_pos (of_decide_eq_true d1), List.getElem?_eq_none (by omega)]
      have d2 : decide ((j : Int) < (L.length : Nat)) = false := decide_eq_false (by omega)
      rw [hr]
      refine givesW_of' Tryd.func62 rfl (by kernel_rfl) Tryd.ntmps62 rfl rfl fun Q hQ => ?_
      repeat (first | refine tr_seq_k fun _ _ => ?_ | (refine tr_region ?_; simp only [go_sem, reduceCtorEq, Nat.reduceEqDiff, Nat.reduceLT, Nat.reduceLeDiff, Nat.reduceAdd, Nat.reduceMul, Nat.reduceSub, Nat.reduceBEq, ↓reduceIte, g, d1]) | refine k_of (by assumption) ?_)
      refine tr_cond rfl (fun ht => ?_) (fun hf => ?_)
      · cases ht
      · repeat (first | refine tr_seq_k fun _ _ => ?_ | (refine tr_region ?_; simp only [go_sem, reduceCtorEq, Nat.reduceEqDiff, Nat.reduceLT, Nat.reduceLeDiff, Nat.reduceAdd, Nat.reduceMul, Nat.reduceSub, Nat.reduceBEq, ↓reduceIte, g, s_set, d2]) | refine k_of (by assumption) ?_ | (refine tr_skip ?_; try simp only [ex_seq, ex_block]))
        refine tr_cond rfl (fun ht => ?_) (fun hf => ?_)
        · cases ht
        · repeat ((refine tr_skip ?_; try simp only [ex_seq, ex_block]))
          exact (hQ _ _ [] rfl rfl rfl).1
theorem is_gives (hb : b < A.length) (r : Rs) (s : ByteArray) : GivesW Tryd.prog 60 [.ptr b 0, sA s] ⟨A.set b (rdB ex L n r), hw⟩ (bA (isT L r s)) ⟨A.set b (rdB ex L n r), hw⟩ := by
  have g := fun x => s_get (A := A) hb x
  cases d1 : decide (r.e = 0) with
  | false =>
    have hr : isT L r s = false := by unfold isT; rw [d1]; rfl
    rw [hr]
    refine givesW_of' Tryd.func60 rfl (by kernel_rfl) Tryd.ntmps60 rfl rfl fun Q hQ => ?_
    repeat (first | refine tr_seq_k fun _ _ => ?_ | (refine tr_region ?_; simp only [go_sem, reduceCtorEq, Nat.reduceEqDiff, Nat.reduceLT, Nat.reduceLeDiff, Nat.reduceAdd, Nat.reduceMul, Nat.reduceSub, Nat.reduceBEq, ↓reduceIte, g, d1]) | (refine tr_drawC (id := 1) follows 10000 (by kernel_rfl) ?_; simp only [go_sem, reduceCtorEq, Nat.reduceEqDiff, Nat.reduceLT, Nat.reduceLeDiff, Nat.reduceAdd, Nat.reduceMul, Nat.reduceSub, Nat.reduceBEq, ↓reduceIte, g, d1]) | refine k_of (by assumption) ?_ | (refine tr_ret ?_; try simp only [ex_seq_ret, ex_block_ret]))
    refine (hQ _ _ [bA false] ?_ rfl rfl).2 <;> simp only [go_sem, reduceCtorEq, Nat.reduceEqDiff, Nat.reduceLT, Nat.reduceLeDiff, Nat.reduceAdd, Nat.reduceMul, Nat.reduceSub, Nat.reduceBEq, ↓reduceIte, Tryd.f60]
  | true =>
    by_cases hj : r.i < L.length
    · have hr : isT L r s = decide (L[r.i].text = s) := by unfold isT; rw [d1, List.getElem?_eq_getElem hj]; rfl
      have ix := idxTk (ex := ex) hj
      have d2 : decide ((r.i : Int) < (L.length : Nat)) = true := decide_eq_true (by omega)
      rw [hr]
      generalize L[r.i] = t at *
      cases d3 : decide (t.text = s)
      all_goals
        refine givesW_of' Tryd.func60 rfl (by kernel_rfl) Tryd.ntmps60 rfl rfl fun Q hQ => ?_
        repeat (first | refine tr_seq_k fun _ _ => ?_ | (refine tr_region ?_; simp only [go_sem, reduceCtorEq, Nat.reduceEqDiff, Nat.reduceLT, Nat.reduceLeDiff, Nat.reduceAdd, Nat.reduceMul, Nat.reduceSub, Nat.reduceBEq, ↓reduceIte, g, d1, d2, ix, d3]) | (refine tr_drawC (id := 1) follows 10000 (by kernel_rfl) ?_; simp only [go_sem, reduceCtorEq, Nat.reduceEqDiff, Nat.reduceLT, Nat.reduceLeDiff, Nat.reduceAdd, Nat.reduceMul, Nat.reduceSub, Nat.reduceBEq, ↓reduceIte, g, d1, d2, ix, d3]) | refine k_of (by assumption) ?_ | (refine tr_ret ?_; try simp only [ex_seq_ret, ex_block_ret]))
        refine (hQ _ _ [bA _] ?_ rfl rfl).2 <;> simp only [go_sem, reduceCtorEq, Nat.reduceEqDiff, Nat.reduceLT, Nat.reduceLeDiff, Nat.reduceAdd, Nat.reduceMul, Nat.reduceSub, Nat.reduceBEq, ↓reduceIte, Tryd.f60]
    · have hr : isT L r s = false := by unfold isT; rw [d1, List.getElem?_eq_none (by omega)]; rfl
      have d2 : decide ((r.i : Int) < (L.length : Nat)) = false := decide_eq_false (by omega)
      rw [hr]
      refine givesW_of' Tryd.func60 rfl (by kernel_rfl) Tryd.ntmps60 rfl rfl fun Q hQ => ?_
      repeat (first | refine tr_seq_k fun _ _ => ?_ | (refine tr_region ?_; simp only [go_sem, reduceCtorEq, Nat.reduceEqDiff, Nat.reduceLT, Nat.reduceLeDiff, Nat.reduceAdd, Nat.reduceMul, Nat.reduceSub, Nat.reduceBEq, ↓reduceIte, g, d1, d2]) | (refine tr_drawC (id := 1) follows 10000 (by kernel_rfl) ?_; simp only [go_sem, reduceCtorEq, Nat.reduceEqDiff, Nat.reduceLT, Nat.reduceLeDiff, Nat.reduceAdd, Nat.reduceMul, Nat.reduceSub, Nat.reduceBEq, ↓reduceIte, g, d1, d2]) | refine k_of (by assumption) ?_ | (refine tr_ret ?_; try simp only [ex_seq_ret, ex_block_ret]))
      refine (hQ _ _ [bA false] ?_ rfl rfl).2 <;> simp only [go_sem, reduceCtorEq, Nat.reduceEqDiff, Nat.reduceLT, Nat.reduceLeDiff, Nat.reduceAdd, Nat.reduceMul, Nat.reduceSub, Nat.reduceBEq, ↓reduceIte, Tryd.f60]
theorem maybe_gives (hb : b < A.length) (hL : L.length ≤ 1000000) (r : Rs) (s : ByteArray) : GivesW Tryd.prog 29 [.ptr b 0, sA s] ⟨A.set b (rdB ex L n r), hw⟩ (bA (isT L r s)) ⟨A.set b (rdB ex L n (maybeR L r s)), hw⟩ := by
  have g := fun x => s_get (A := A) hb x
  have cI := is_gives (hw := hw) (ex := ex) (L := L) (n := n) hb r s
  unfold maybeR
  cases h1 : isT L r s with
  | false =>
    rw [h1] at cI
    rw [if_neg Bool.false_ne_true]
    refine givesW_of' Tryd.func29 rfl (by kernel_rfl) Tryd.ntmps29 rfl rfl fun Q hQ => ?_
    repeat (first | refine tr_seq_k fun _ _ => ?_ | (refine tr_region ?_; simp only [go_sem, reduceCtorEq, Nat.reduceEqDiff, Nat.reduceLT, Nat.reduceLeDiff, Nat.reduceAdd, Nat.reduceMul, Nat.reduceSub, Nat.reduceBEq, ↓reduceIte, g]) | (refine call_givesW (cI) ?_; (try dsimp only); (try simp only [go_sem, reduceCtorEq, Nat.reduceEqDiff, Nat.reduceLT, Nat.reduceLeDiff, Nat.reduceAdd, Nat.reduceMul, Nat.reduceSub, Nat.reduceBEq, ↓reduceIte, g])) | refine k_of (by assumption) ?_)
    refine tr_cond rfl (fun ht => ?_) (fun hf => ?_)
    · cases ht
    · repeat (first | refine tr_seq_k fun _ _ => ?_ | (refine tr_region ?_; simp only [go_sem, reduceCtorEq, Nat.reduceEqDiff, Nat.reduceLT, Nat.reduceLeDiff, Nat.reduceAdd, Nat.reduceMul, Nat.reduceSub, Nat.reduceBEq, ↓reduceIte]) | refine k_of (by assumption) ?_ | (refine tr_skip ?_; try simp only [ex_seq, ex_block]) | (refine tr_ret ?_; try simp only [ex_seq_ret, ex_block_ret]))
      refine (hQ _ _ [bA false] ?_ rfl rfl).2 <;> simp only [go_sem, reduceCtorEq, Nat.reduceEqDiff, Nat.reduceLT, Nat.reduceLeDiff, Nat.reduceAdd, Nat.reduceMul, Nat.reduceSub, Nat.reduceBEq, ↓reduceIte, Tryd.f29]
  | true =>
    have hi := (isT_lt h1).2
    have ws := wrap_succ (show r.i ≤ 1000000000 by omega)
    rw [h1] at cI
    rw [if_pos rfl]
    refine givesW_of' Tryd.func29 rfl (by kernel_rfl) Tryd.ntmps29 rfl rfl fun Q hQ => ?_
    repeat (first | refine tr_seq_k fun _ _ => ?_ | (refine tr_region ?_; simp only [go_sem, reduceCtorEq, Nat.reduceEqDiff, Nat.reduceLT, Nat.reduceLeDiff, Nat.reduceAdd, Nat.reduceMul, Nat.reduceSub, Nat.reduceBEq, ↓reduceIte, g]) | (refine call_givesW (cI) ?_; (try dsimp only); (try simp only [go_sem, reduceCtorEq, Nat.reduceEqDiff, Nat.reduceLT, Nat.reduceLeDiff, Nat.reduceAdd, Nat.reduceMul, Nat.reduceSub, Nat.reduceBEq, ↓reduceIte, g])) | refine k_of (by assumption) ?_)
    refine tr_cond rfl (fun ht => ?_) (fun hf => ?_)
    · repeat (first | refine tr_seq_k fun _ _ => ?_ | (refine tr_region ?_; simp only [go_sem, reduceCtorEq, Nat.reduceEqDiff, Nat.reduceLT, Nat.reduceLeDiff, Nat.reduceAdd, Nat.reduceMul, Nat.reduceSub, Nat.reduceBEq, ↓reduceIte, g, s_set, ws]) | refine k_of (by assumption) ?_ | (refine tr_ret ?_; try simp only [ex_seq_ret, ex_block_ret]))
      refine (hQ _ _ [bA true] ?_ rfl rfl).2 <;> simp only [go_sem, reduceCtorEq, Nat.reduceEqDiff, Nat.reduceLT, Nat.reduceLeDiff, Nat.reduceAdd, Nat.reduceMul, Nat.reduceSub, Nat.reduceBEq, ↓reduceIte, Tryd.f29]
    · cases hf
theorem must_gives (hb : b < A.length) (hL : L.length ≤ 1000000) (r : Rs) (s : ByteArray) : GivesW Tryd.prog 31 [.ptr b 0, sA s] ⟨A.set b (rdB ex L n r), hw⟩ (.tup []) ⟨A.set b (rdB ex L n (mustT L n r s)), hw⟩ := by
  have g := fun x => s_get (A := A) hb x
  have cI := maybe_gives (hw := hw) (ex := ex) (L := L) (n := n) hb hL r s
  have cF := fail_gives (hw := hw) (ex := ex) (L := L) (n := n) hb r 3 r.i
  unfold mustT
  unfold maybeR at cI
  cases h1 : isT L r s with
  | false =>
    rw [h1, if_neg Bool.false_ne_true] at cI
    rw [if_neg Bool.false_ne_true]
    refine givesW_of' Tryd.func31 rfl (by kernel_rfl) Tryd.ntmps31 rfl rfl fun Q hQ => ?_
    repeat (first | refine tr_seq_k fun _ _ => ?_ | (refine tr_region ?_; simp only [go_sem, reduceCtorEq, Nat.reduceEqDiff, Nat.reduceLT, Nat.reduceLeDiff, Nat.reduceAdd, Nat.reduceMul, Nat.reduceSub, Nat.reduceBEq, ↓reduceIte, g]) | (refine call_givesW (cI) ?_; (try dsimp only); (try simp only [go_sem, reduceCtorEq, Nat.reduceEqDiff, Nat.reduceLT, Nat.reduceLeDiff, Nat.reduceAdd, Nat.reduceMul, Nat.reduceSub, Nat.reduceBEq, ↓reduceIte, g])) | refine k_of (by assumption) ?_)
    refine tr_cond rfl (fun ht => ?_) (fun hf => ?_)
    · repeat (first | (refine tr_region ?_; simp only [go_sem, reduceCtorEq, Nat.reduceEqDiff, Nat.reduceLT, Nat.reduceLeDiff, Nat.reduceAdd, Nat.reduceMul, Nat.reduceSub, Nat.reduceBEq, ↓reduceIte, g]) | (refine call_givesW (cF) ?_; (try dsimp only); (try simp only [go_sem, reduceCtorEq, Nat.reduceEqDiff, Nat.reduceLT, Nat.reduceLeDiff, Nat.reduceAdd, Nat.reduceMul, Nat.reduceSub, Nat.reduceBEq, ↓reduceIte, g])))
      exact (hQ _ _ [] rfl rfl rfl).1
    · cases hf
  | true =>
    rw [h1, if_pos rfl] at cI
    rw [if_pos rfl]
    refine givesW_of' Tryd.func31 rfl (by kernel_rfl) Tryd.ntmps31 rfl rfl fun Q hQ => ?_
    repeat (first | refine tr_seq_k fun _ _ => ?_ | (refine tr_region ?_; simp only [go_sem, reduceCtorEq, Nat.reduceEqDiff, Nat.reduceLT, Nat.reduceLeDiff, Nat.reduceAdd, Nat.reduceMul, Nat.reduceSub, Nat.reduceBEq, ↓reduceIte, g]) | (refine call_givesW (cI) ?_; (try dsimp only); (try simp only [go_sem, reduceCtorEq, Nat.reduceEqDiff, Nat.reduceLT, Nat.reduceLeDiff, Nat.reduceAdd, Nat.reduceMul, Nat.reduceSub, Nat.reduceBEq, ↓reduceIte, g])) | refine k_of (by assumption) ?_)
    refine tr_cond rfl (fun ht => ?_) (fun hf => ?_)
    · cases ht
    · repeat ((refine tr_skip ?_; try simp only [ex_seq, ex_block]))
      exact (hQ _ _ [] rfl rfl rfl).1
end Go.Proofs.YtaeehadibckcjaaDoor
namespace Go.Proofs.YtaeehadibckcjaaDoor
open Go.RowKit Go.Vs Go.Vs.Ab
set_option maxRecDepth 100000
set_option maxHeartbeats 4000000
theorem num_tail (s : ByteArray) : decide (s ≠ ⟨#[]⟩) = !decide (s = ⟨#[]⟩) := by
  by_cases h : s = ⟨#[]⟩
  · simp [h]
  · simp [h]
theorem may3_does (s : ByteArray) (hz : s.size ≤ 1000000) : Does Tryd.prog 61 [iA 3, sA s] (fun m => (bA (pnum s), m)) := by
  have lsz := lts_len s
  refine does_of' Tryd.func61 rfl (by kernel_rfl) rfl Tryd.ntmps61 rfl rfl fun Q hQ => ?_
  repeat (first | refine tr_seq_k fun _ _ => ?_ | (refine tr_region ?_; simp only [go_sem, reduceCtorEq, Nat.reduceEqDiff, Nat.reduceLT, Nat.reduceLeDiff, Nat.reduceAdd, Nat.reduceMul, Nat.reduceSub, Nat.reduceBEq, ↓reduceIte]) | refine k_of (by assumption) ?_ | refine tr_block ?_)
  refine tr_cond rfl (fun ht => ?_) (fun hf => ?_)
  · cases ht
  repeat (first | refine tr_seq_k fun _ _ => ?_ | (refine tr_region ?_; simp only [go_sem, reduceCtorEq, Nat.reduceEqDiff, Nat.reduceLT, Nat.reduceLeDiff, Nat.reduceAdd, Nat.reduceMul, Nat.reduceSub, Nat.reduceBEq, ↓reduceIte]) | refine k_of (by assumption) ?_)
  refine tr_cond rfl (fun ht => ?_) (fun hf => ?_)
  · cases ht
  repeat (first | refine tr_seq_k fun _ _ => ?_ | (refine tr_region ?_; simp only [go_sem, reduceCtorEq, Nat.reduceEqDiff, Nat.reduceLT, Nat.reduceLeDiff, Nat.reduceAdd, Nat.reduceMul, Nat.reduceSub, Nat.reduceBEq, ↓reduceIte]) | refine k_of (by assumption) ?_)
  refine tr_cond rfl (fun ht => ?_) (fun hf => ?_)
  · cases ht
  repeat (first | refine tr_seq_k fun _ _ => ?_ | (refine tr_region ?_; simp only [go_sem, reduceCtorEq, Nat.reduceEqDiff, Nat.reduceLT, Nat.reduceLeDiff, Nat.reduceAdd, Nat.reduceMul, Nat.reduceSub, Nat.reduceBEq, ↓reduceIte]) | refine k_of (by assumption) ?_ | refine tr_block ?_ | (refine tr_skip ?_; try simp only [ex_seq, ex_block]))
  refine tr_loop_k (σ := Nat) (fun k => [(1, sA s), (5, iA k)]) (fun _ => ⟨[], []⟩) (fun k => k ≤ (lts s).length ∧ ((lts s).take k).all digB = true) (fun k => (lts s).length - k) 0 ⟨Nat.zero_le _, rfl⟩ ⟨rfl, rfl, trivial⟩ rfl ?_
  rintro k ⟨hk, hp⟩ K hK
  by_cases hkl : k < (lts s).length
  · have d1 : decide ((k : Int) < (s.size : Nat)) = true := decide_eq_true (by omega)
    have ix := idx_str s hkl
    have ws := wrap_succ (show k ≤ 1000000000 by omega)
    have hnx := all_next (p := digB) hkl hp
    have hfl := all_fail (p := digB) hkl
    generalize (lts s)[k] = c at *
    have cD := digit_does c
    cases h1 : digB c with
    | true =>
      rw [h1] at cD
      repeat (first | refine tr_seq_k fun _ _ => ?_ | (refine tr_region ?_; simp only [go_sem, reduceCtorEq, Nat.reduceEqDiff, Nat.reduceLT, Nat.reduceLeDiff, Nat.reduceAdd, Nat.reduceMul, Nat.reduceSub, Nat.reduceBEq, ↓reduceIte, d1]) | refine k_of (by assumption) ?_)
      refine tr_cond rfl (fun ht => ?_) (fun hf => ?_)
      · repeat (first | refine tr_seq_k fun _ _ => ?_ | (refine tr_region ?_; simp only [go_sem, reduceCtorEq, Nat.reduceEqDiff, Nat.reduceLT, Nat.reduceLeDiff, Nat.reduceAdd, Nat.reduceMul, Nat.reduceSub, Nat.reduceBEq, ↓reduceIte, ix]) | (refine call_of (cD) ?_ ?_; (first | rfl | simp only [go_sem, reduceCtorEq, Nat.reduceEqDiff, Nat.reduceLT, Nat.reduceLeDiff, Nat.reduceAdd, Nat.reduceMul, Nat.reduceSub, Nat.reduceBEq, ↓reduceIte, ix, shut_col]); simp only [go_sem, reduceCtorEq, Nat.reduceEqDiff, Nat.reduceLT, Nat.reduceLeDiff, Nat.reduceAdd, Nat.reduceMul, Nat.reduceSub, Nat.reduceBEq, ↓reduceIte, ix]) | refine k_of (by assumption) ?_ | refine tr_block ?_ | (refine tr_skip ?_; try simp only [ex_seq, ex_block]))
        refine tr_cond rfl (fun ht => ?_) (fun hf => ?_)
        · cases ht
        · repeat (first | (refine tr_region ?_; simp only [go_sem, reduceCtorEq, Nat.reduceEqDiff, Nat.reduceLT, Nat.reduceLeDiff, Nat.reduceAdd, Nat.reduceMul, Nat.reduceSub, Nat.reduceBEq, ↓reduceIte, ws]) | refine k_of (by assumption) ?_ | (refine tr_skip ?_; try simp only [ex_seq, ex_block]))
          exact hK (k + 1) _ _ ⟨hkl, hnx h1⟩ ⟨⟨rfl, rfl, trivial⟩, Keep.refl _, rfl, rfl, Nat.le_refl _, Nat.le_refl _⟩ (by omega)
      · cases hf
    | false =>
      rw [h1] at cD
      have hr : pnum s = false := by unfold pnum; rw [hfl h1]; rfl
      repeat (first | refine tr_seq_k fun _ _ => ?_ | (refine tr_region ?_; simp only [go_sem, reduceCtorEq, Nat.reduceEqDiff, Nat.reduceLT, Nat.reduceLeDiff, Nat.reduceAdd, Nat.reduceMul, Nat.reduceSub, Nat.reduceBEq, ↓reduceIte, d1]) | refine k_of (by assumption) ?_)
      refine tr_cond rfl (fun ht => ?_) (fun hf => ?_)
      · repeat (first | refine tr_seq_k fun _ _ => ?_ | (refine tr_region ?_; simp only [go_sem, reduceCtorEq, Nat.reduceEqDiff, Nat.reduceLT, Nat.reduceLeDiff, Nat.reduceAdd, Nat.reduceMul, Nat.reduceSub, Nat.reduceBEq, ↓reduceIte, ix]) | (refine call_of (cD) ?_ ?_; (first | rfl | simp only [go_sem, reduceCtorEq, Nat.reduceEqDiff, Nat.reduceLT, Nat.reduceLeDiff, Nat.reduceAdd, Nat.reduceMul, Nat.reduceSub, Nat.reduceBEq, ↓reduceIte, ix, shut_col]); simp only [go_sem, reduceCtorEq, Nat.reduceEqDiff, Nat.reduceLT, Nat.reduceLeDiff, Nat.reduceAdd, Nat.reduceMul, Nat.reduceSub, Nat.reduceBEq, ↓reduceIte, ix]) | refine k_of (by assumption) ?_ | refine tr_block ?_ | (refine tr_skip ?_; try simp only [ex_seq, ex_block]))
        refine tr_cond rfl (fun ht => ?_) (fun hf => ?_)
        · repeat (first | refine tr_seq_k fun _ _ => ?_ | (refine tr_region ?_; simp only [go_sem, reduceCtorEq, Nat.reduceEqDiff, Nat.reduceLT, Nat.reduceLeDiff, Nat.reduceAdd, Nat.reduceMul, Nat.reduceSub, Nat.reduceBEq, ↓reduceIte]) | refine k_of (by assumption) ?_ | (refine tr_ret ?_; try simp only [ex_seq_ret, ex_block_ret]))
          refine (hQ _ _ [bA false] ?_ (fun m => ?_)).2 <;> simp only [go_sem, reduceCtorEq, Nat.reduceEqDiff, Nat.reduceLT, Nat.reduceLeDiff, Nat.reduceAdd, Nat.reduceMul, Nat.reduceSub, Nat.reduceBEq, ↓reduceIte, Tryd.f61, hr]
        · cases hf
      · cases hf
  · have d1 : decide ((k : Int) < (s.size : Nat)) = false := decide_eq_false (by omega)
    obtain rfl : k = (lts s).length := by omega
    rw [List.take_length] at hp
    have hr : pnum s = (!decide (s = ⟨#[]⟩) && (decide ((s.size : Int) ≤ 7) && (decide ((s.size : Int) = 1) || headB (fun c => !decide ((c.toNat : Int) = 48)) s))) := by
      unfold pnum
      rw [hp, num_tail]
      rfl
    cases e1 : decide (s = ⟨#[]⟩) with
    | true =>
      rw [e1] at hr
      have hr : pnum s = false := hr
      repeat (first | refine tr_seq_k fun _ _ => ?_ | (refine tr_region ?_; simp only [go_sem, reduceCtorEq, Nat.reduceEqDiff, Nat.reduceLT, Nat.reduceLeDiff, Nat.reduceAdd, Nat.reduceMul, Nat.reduceSub, Nat.reduceBEq, ↓reduceIte, d1]) | refine k_of (by assumption) ?_)
      refine tr_cond rfl (fun ht => ?_) (fun hf => ?_)
      · cases ht
      · repeat (first | refine tr_seq_k fun _ _ => ?_ | (refine tr_region ?_; simp only [go_sem, reduceCtorEq, Nat.reduceEqDiff, Nat.reduceLT, Nat.reduceLeDiff, Nat.reduceAdd, Nat.reduceMul, Nat.reduceSub, Nat.reduceBEq, ↓reduceIte, e1]) | refine k_of (by assumption) ?_ | (refine tr_exit ?_; try simp only [ex_seq_exit, ex_block_exit, Nat.reduceEqDiff, if_true, if_false, ex_seq, ex_block, reduceCtorEq, ↓reduceIte]) | (refine tr_ret ?_; try simp only [ex_seq_ret, ex_block_ret]))
        refine (hQ _ _ [bA false] ?_ (fun m => ?_)).2 <;> simp only [go_sem, reduceCtorEq, Nat.reduceEqDiff, Nat.reduceLT, Nat.reduceLeDiff, Nat.reduceAdd, Nat.reduceMul, Nat.reduceSub, Nat.reduceBEq, ↓reduceIte, Tryd.f61, hr]
    | false =>
      rw [e1] at hr
      cases e2 : decide ((s.size : Int) ≤ 7) with
      | false =>
        rw [e2] at hr
        have hr : pnum s = false := hr
        repeat (first | refine tr_seq_k fun _ _ => ?_ | (refine tr_region ?_; simp only [go_sem, reduceCtorEq, Nat.reduceEqDiff, Nat.reduceLT, Nat.reduceLeDiff, Nat.reduceAdd, Nat.reduceMul, Nat.reduceSub, Nat.reduceBEq, ↓reduceIte, d1]) | refine k_of (by assumption) ?_)
        refine tr_cond rfl (fun ht => ?_) (fun hf => ?_)
        · cases ht
        · repeat (first | refine tr_seq_k fun _ _ => ?_ | (refine tr_region ?_; simp only [go_sem, reduceCtorEq, Nat.reduceEqDiff, Nat.reduceLT, Nat.reduceLeDiff, Nat.reduceAdd, Nat.reduceMul, Nat.reduceSub, Nat.reduceBEq, ↓reduceIte, e1, e2]) | refine k_of (by assumption) ?_ | (refine tr_exit ?_; try simp only [ex_seq_exit, ex_block_exit, Nat.reduceEqDiff, if_true, if_false, ex_seq, ex_block, reduceCtorEq, ↓reduceIte]) | (refine tr_ret ?_; try simp only [ex_seq_ret, ex_block_ret]))
          refine (hQ _ _ [bA false] ?_ (fun m => ?_)).2 <;> simp only [go_sem, reduceCtorEq, Nat.reduceEqDiff, Nat.reduceLT, Nat.reduceLeDiff, Nat.reduceAdd, Nat.reduceMul, Nat.reduceSub, Nat.reduceBEq, ↓reduceIte, Tryd.f61, hr]
      | true =>
        rw [e2] at hr
        cases e3 : decide ((s.size : Int) = 1) with
        | true =>
          rw [e3] at hr
          have hr : pnum s = true := hr
          repeat (first | refine tr_seq_k fun _ _ => ?_ | (refine tr_region ?_; simp only [go_sem, reduceCtorEq, Nat.reduceEqDiff, Nat.reduceLT, Nat.reduceLeDiff, Nat.reduceAdd, Nat.reduceMul, Nat.reduceSub, Nat.reduceBEq, ↓reduceIte, d1]) | refine k_of (by assumption) ?_)
          refine tr_cond rfl (fun ht => ?_) (fun hf => ?_)
          · cases ht
          · repeat (first | refine tr_seq_k fun _ _ => ?_ | (refine tr_region ?_; simp only [go_sem, reduceCtorEq, Nat.reduceEqDiff, Nat.reduceLT, Nat.reduceLeDiff, Nat.reduceAdd, Nat.reduceMul, Nat.reduceSub, Nat.reduceBEq, ↓reduceIte, e1, e2, e3]) | refine k_of (by assumption) ?_ | (refine tr_exit ?_; try simp only [ex_seq_exit, ex_block_exit, Nat.reduceEqDiff, if_true, if_false, ex_seq, ex_block, reduceCtorEq, ↓reduceIte]) | (refine tr_ret ?_; try simp only [ex_seq_ret, ex_block_ret]))
            refine (hQ _ _ [bA true] ?_ (fun m => ?_)).2 <;> simp only [go_sem, reduceCtorEq, Nat.reduceEqDiff, Nat.reduceLT, Nat.reduceLeDiff, Nat.reduceAdd, Nat.reduceMul, Nat.reduceSub, Nat.reduceBEq, ↓reduceIte, Tryd.f61, hr]
        | false =>
          rw [e3] at hr
          have hpos : 0 < s.size := by
            rcases Nat.eq_zero_or_pos s.size with h | h
            · exact absurd (size_zero h) (of_decide_eq_false e1)
            · exact h
          have ix := idx_str0 s (by omega)
          have hh := headB_get (p := fun c => !decide ((c.toNat : Int) = 48)) hpos
          rw [hh] at hr
          generalize (lts s)[0] = c at *
          cases e4 : decide ((c.toNat : Int) = 48) with
          | true =>
            rw [e4] at hr
            have hr : pnum s = false := hr
            repeat (first | refine tr_seq_k fun _ _ => ?_ | (refine tr_region ?_; simp only [go_sem, reduceCtorEq, Nat.reduceEqDiff, Nat.reduceLT, Nat.reduceLeDiff, Nat.reduceAdd, Nat.reduceMul, Nat.reduceSub, Nat.reduceBEq, ↓reduceIte, d1]) | refine k_of (by assumption) ?_)
            refine tr_cond rfl (fun ht => ?_) (fun hf => ?_)
            · cases ht
            · repeat (first | refine tr_seq_k fun _ _ => ?_ | (refine tr_region ?_; simp only [go_sem, reduceCtorEq, Nat.reduceEqDiff, Nat.reduceLT, Nat.reduceLeDiff, Nat.reduceAdd, Nat.reduceMul, Nat.reduceSub, Nat.reduceBEq, ↓reduceIte, e1, e2, e3, ix, e4]) | refine k_of (by assumption) ?_ | (refine tr_exit ?_; try simp only [ex_seq_exit, ex_block_exit, Nat.reduceEqDiff, if_true, if_false, ex_seq, ex_block, reduceCtorEq, ↓reduceIte]) | (refine tr_ret ?_; try simp only [ex_seq_ret, ex_block_ret]))
              refine (hQ _ _ [bA false] ?_ (fun m => ?_)).2 <;> simp only [go_sem, reduceCtorEq, Nat.reduceEqDiff, Nat.reduceLT, Nat.reduceLeDiff, Nat.reduceAdd, Nat.reduceMul, Nat.reduceSub, Nat.reduceBEq, ↓reduceIte, Tryd.f61, hr]
          | false =>
            rw [e4] at hr
            have hr : pnum s = true := hr
            repeat (first | refine tr_seq_k fun _ _ => ?_ | (refine tr_region ?_; simp only [go_sem, reduceCtorEq, Nat.reduceEqDiff, Nat.reduceLT, Nat.reduceLeDiff, Nat.reduceAdd, Nat.reduceMul, Nat.reduceSub, Nat.reduceBEq, ↓reduceIte, d1]) | refine k_of (by assumption) ?_)
            refine tr_cond rfl (fun ht => ?_) (fun hf => ?_)
            · cases ht
            · repeat (first | refine tr_seq_k fun _ _ => ?_ | (refine tr_region ?_; simp only [go_sem, reduceCtorEq, Nat.reduceEqDiff, Nat.reduceLT, Nat.reduceLeDiff, Nat.reduceAdd, Nat.reduceMul, Nat.reduceSub, Nat.reduceBEq, ↓reduceIte, e1, e2, e3, ix, e4]) | refine k_of (by assumption) ?_ | (refine tr_exit ?_; try simp only [ex_seq_exit, ex_block_exit, Nat.reduceEqDiff, if_true, if_false, ex_seq, ex_block, reduceCtorEq, ↓reduceIte]) | (refine tr_ret ?_; try simp only [ex_seq_ret, ex_block_ret]))
              refine (hQ _ _ [bA true] ?_ (fun m => ?_)).2 <;> simp only [go_sem, reduceCtorEq, Nat.reduceEqDiff, Nat.reduceLT, Nat.reduceLeDiff, Nat.reduceAdd, Nat.reduceMul, Nat.reduceSub, Nat.reduceBEq, ↓reduceIte, Tryd.f61, hr]
theorem may0_does (s : ByteArray) : Does Tryd.prog 61 [iA 0, sA s] (fun m => (bA (pprincipal s), m)) := by
  have c1 := principal_does s
  refine does_of' Tryd.func61 rfl (by kernel_rfl) rfl Tryd.ntmps61 rfl rfl fun Q hQ => ?_
  repeat (first | refine tr_seq_k fun _ _ => ?_ | (refine tr_region ?_; simp only [go_sem, reduceCtorEq, Nat.reduceEqDiff, Nat.reduceLT, Nat.reduceLeDiff, Nat.reduceAdd, Nat.reduceMul, Nat.reduceSub, Nat.reduceBEq, ↓reduceIte]) | refine k_of (by assumption) ?_ | refine tr_block ?_)
  refine tr_cond rfl (fun ht => ?_) (fun hf => ?_)
  · repeat (first | refine tr_seq_k fun _ _ => ?_ | (refine tr_region ?_; simp only [go_sem, reduceCtorEq, Nat.reduceEqDiff, Nat.reduceLT, Nat.reduceLeDiff, Nat.reduceAdd, Nat.reduceMul, Nat.reduceSub, Nat.reduceBEq, ↓reduceIte]) | (refine call_of (c1) ?_ ?_; (first | rfl | simp only [go_sem, reduceCtorEq, Nat.reduceEqDiff, Nat.reduceLT, Nat.reduceLeDiff, Nat.reduceAdd, Nat.reduceMul, Nat.reduceSub, Nat.reduceBEq, ↓reduceIte, shut_col]); simp only [go_sem, reduceCtorEq, Nat.reduceEqDiff, Nat.reduceLT, Nat.reduceLeDiff, Nat.reduceAdd, Nat.reduceMul, Nat.reduceSub, Nat.reduceBEq, ↓reduceIte]) | refine k_of (by assumption) ?_ | (refine tr_ret ?_; try simp only [ex_seq_ret, ex_block_ret]))
    refine (hQ _ _ [bA (pprincipal s)] ?_ (fun m => ?_)).2 <;> simp only [go_sem, reduceCtorEq, Nat.reduceEqDiff, Nat.reduceLT, Nat.reduceLeDiff, Nat.reduceAdd, Nat.reduceMul, Nat.reduceSub, Nat.reduceBEq, ↓reduceIte, Tryd.f61,]
  · cases hf
theorem may1_does (s : ByteArray) : Does Tryd.prog 61 [iA 1, sA s] (fun m => (bA (pprincipal s), m)) := by
  have c1 := predicate_does s
  refine does_of' Tryd.func61 rfl (by kernel_rfl) rfl Tryd.ntmps61 rfl rfl fun Q hQ => ?_
  repeat (first | refine tr_seq_k fun _ _ => ?_ | (refine tr_region ?_; simp only [go_sem, reduceCtorEq, Nat.reduceEqDiff, Nat.reduceLT, Nat.reduceLeDiff, Nat.reduceAdd, Nat.reduceMul, Nat.reduceSub, Nat.reduceBEq, ↓reduceIte]) | refine k_of (by assumption) ?_ | refine tr_block ?_)
  refine tr_cond rfl (fun ht => ?_) (fun hf => ?_)
  · cases ht
  repeat (first | refine tr_seq_k fun _ _ => ?_ | (refine tr_region ?_; simp only [go_sem, reduceCtorEq, Nat.reduceEqDiff, Nat.reduceLT, Nat.reduceLeDiff, Nat.reduceAdd, Nat.reduceMul, Nat.reduceSub, Nat.reduceBEq, ↓reduceIte]) | refine k_of (by assumption) ?_)
  refine tr_cond rfl (fun ht => ?_) (fun hf => ?_)
  · repeat (first | refine tr_seq_k fun _ _ => ?_ | (refine tr_region ?_; simp only [go_sem, reduceCtorEq, Nat.reduceEqDiff, Nat.reduceLT, Nat.reduceLeDiff, Nat.reduceAdd, Nat.reduceMul, Nat.reduceSub, Nat.reduceBEq, ↓reduceIte]) | (refine call_of (c1) ?_ ?_; (first | rfl | simp only [go_sem, reduceCtorEq, Nat.reduceEqDiff, Nat.reduceLT, Nat.reduceLeDiff, Nat.reduceAdd, Nat.reduceMul, Nat.reduceSub, Nat.reduceBEq, ↓reduceIte, shut_col]); simp only [go_sem, reduceCtorEq, Nat.reduceEqDiff, Nat.reduceLT, Nat.reduceLeDiff, Nat.reduceAdd, Nat.reduceMul, Nat.reduceSub, Nat.reduceBEq, ↓reduceIte]) | refine k_of (by assumption) ?_ | (refine tr_ret ?_; try simp only [ex_seq_ret, ex_block_ret]))
    refine (hQ _ _ [bA (pprincipal s)] ?_ (fun m => ?_)).2 <;> simp only [go_sem, reduceCtorEq, Nat.reduceEqDiff, Nat.reduceLT, Nat.reduceLeDiff, Nat.reduceAdd, Nat.reduceMul, Nat.reduceSub, Nat.reduceBEq, ↓reduceIte, Tryd.f61,]
  · cases hf
theorem may2_does (s : ByteArray) : Does Tryd.prog 61 [iA 2, sA s] (fun m => (bA (pconstant s || pvariable s), m)) := by
  have c1 := constant_does s
  have c2 := variable_does s
  cases h1 : pconstant s with
  | true =>
    rw [h1] at c1
    refine does_of' Tryd.func61 rfl (by kernel_rfl) rfl Tryd.ntmps61 rfl rfl fun Q hQ => ?_
    repeat (first | refine tr_seq_k fun _ _ => ?_ | (refine tr_region ?_; simp only [go_sem, reduceCtorEq, Nat.reduceEqDiff, Nat.reduceLT, Nat.reduceLeDiff, Nat.reduceAdd, Nat.reduceMul, Nat.reduceSub, Nat.reduceBEq, ↓reduceIte]) | refine k_of (by assumption) ?_ | refine tr_block ?_)
    refine tr_cond rfl (fun ht => ?_) (fun hf => ?_)
    · cases ht
    repeat (first | refine tr_seq_k fun _ _ => ?_ | (refine tr_region ?_; simp only [go_sem, reduceCtorEq, Nat.reduceEqDiff, Nat.reduceLT, Nat.reduceLeDiff, Nat.reduceAdd, Nat.reduceMul, Nat.reduceSub, Nat.reduceBEq, ↓reduceIte]) | refine k_of (by assumption) ?_)
    refine tr_cond rfl (fun ht => ?_) (fun hf => ?_)
    · cases ht
    repeat (first | refine tr_seq_k fun _ _ => ?_ | (refine tr_region ?_; simp only [go_sem, reduceCtorEq, Nat.reduceEqDiff, Nat.reduceLT, Nat.reduceLeDiff, Nat.reduceAdd, Nat.reduceMul, Nat.reduceSub, Nat.reduceBEq, ↓reduceIte]) | refine k_of (by assumption) ?_)
    refine tr_cond rfl (fun ht => ?_) (fun hf => ?_)
    · repeat (first | refine tr_seq_k fun _ _ => ?_ | (refine tr_region ?_; simp only [go_sem, reduceCtorEq, Nat.reduceEqDiff, Nat.reduceLT, Nat.reduceLeDiff, Nat.reduceAdd, Nat.reduceMul, Nat.reduceSub, Nat.reduceBEq, ↓reduceIte]) | (refine call_of (c1) ?_ ?_; (first | rfl | simp only [go_sem, reduceCtorEq, Nat.reduceEqDiff, Nat.reduceLT, Nat.reduceLeDiff, Nat.reduceAdd, Nat.reduceMul, Nat.reduceSub, Nat.reduceBEq, ↓reduceIte, shut_col]); simp only [go_sem, reduceCtorEq, Nat.reduceEqDiff, Nat.reduceLT, Nat.reduceLeDiff, Nat.reduceAdd, Nat.reduceMul, Nat.reduceSub, Nat.reduceBEq, ↓reduceIte]) | refine k_of (by assumption) ?_ | (refine tr_ret ?_; try simp only [ex_seq_ret, ex_block_ret]))
      refine (hQ _ _ [bA true] ?_ (fun m => rfl)).2 <;> simp only [go_sem, reduceCtorEq, Nat.reduceEqDiff, Nat.reduceLT, Nat.reduceLeDiff, Nat.reduceAdd, Nat.reduceMul, Nat.reduceSub, Nat.reduceBEq, ↓reduceIte, Tryd.f61]
    · cases hf
  | false =>
    rw [h1] at c1
    refine does_of' Tryd.func61 rfl (by kernel_rfl) rfl Tryd.ntmps61 rfl rfl fun Q hQ => ?_
    repeat (first | refine tr_seq_k fun _ _ => ?_ | (refine tr_region ?_; simp only [go_sem, reduceCtorEq, Nat.reduceEqDiff, Nat.reduceLT, Nat.reduceLeDiff, Nat.reduceAdd, Nat.reduceMul, Nat.reduceSub, Nat.reduceBEq, ↓reduceIte]) | refine k_of (by assumption) ?_ | refine tr_block ?_)
    refine tr_cond rfl (fun ht => ?_) (fun hf => ?_)
    · cases ht
    repeat (first | refine tr_seq_k fun _ _ => ?_ | (refine tr_region ?_; simp only [go_sem, reduceCtorEq, Nat.reduceEqDiff, Nat.reduceLT, Nat.reduceLeDiff, Nat.reduceAdd, Nat.reduceMul, Nat.reduceSub, Nat.reduceBEq, ↓reduceIte]) | refine k_of (by assumption) ?_)
    refine tr_cond rfl (fun ht => ?_) (fun hf => ?_)
    · cases ht
    repeat (first | refine tr_seq_k fun _ _ => ?_ | (refine tr_region ?_; simp only [go_sem, reduceCtorEq, Nat.reduceEqDiff, Nat.reduceLT, Nat.reduceLeDiff, Nat.reduceAdd, Nat.reduceMul, Nat.reduceSub, Nat.reduceBEq, ↓reduceIte]) | refine k_of (by assumption) ?_)
    refine tr_cond rfl (fun ht => ?_) (fun hf => ?_)
    · repeat (first | refine tr_seq_k fun _ _ => ?_ | (refine tr_region ?_; simp only [go_sem, reduceCtorEq, Nat.reduceEqDiff, Nat.reduceLT, Nat.reduceLeDiff, Nat.reduceAdd, Nat.reduceMul, Nat.reduceSub, Nat.reduceBEq, ↓reduceIte]) | (refine call_of (c1) ?_ ?_; (first | rfl | simp only [go_sem, reduceCtorEq, Nat.reduceEqDiff, Nat.reduceLT, Nat.reduceLeDiff, Nat.reduceAdd, Nat.reduceMul, Nat.reduceSub, Nat.reduceBEq, ↓reduceIte, shut_col]); simp only [go_sem, reduceCtorEq, Nat.reduceEqDiff, Nat.reduceLT, Nat.reduceLeDiff, Nat.reduceAdd, Nat.reduceMul, Nat.reduceSub, Nat.reduceBEq, ↓reduceIte]) | (refine call_of (c2) ?_ ?_; (first | rfl | simp only [go_sem, reduceCtorEq, Nat.reduceEqDiff, Nat.reduceLT, Nat.reduceLeDiff, Nat.reduceAdd, Nat.reduceMul, Nat.reduceSub, Nat.reduceBEq, ↓reduceIte, shut_col]); simp only [go_sem, reduceCtorEq, Nat.reduceEqDiff, Nat.reduceLT, Nat.reduceLeDiff, Nat.reduceAdd, Nat.reduceMul, Nat.reduceSub, Nat.reduceBEq, ↓reduceIte]) | refine k_of (by assumption) ?_ | (refine tr_ret ?_; try simp only [ex_seq_ret, ex_block_ret]))
      refine (hQ _ _ [bA (pvariable s)] ?_ (fun m => rfl)).2 <;> simp only [go_sem, reduceCtorEq, Nat.reduceEqDiff, Nat.reduceLT, Nat.reduceLeDiff, Nat.reduceAdd, Nat.reduceMul, Nat.reduceSub, Nat.reduceBEq, ↓reduceIte, Tryd.f61]
    · cases hf
theorem may_does (sort : Int) (hs : sort = 0 ∨ sort = 1 ∨ sort = 2 ∨ sort = 3) (s : ByteArray) (hz : s.size ≤ 1000000) : Does Tryd.prog 61 [iA sort, sA s] (fun m => (bA (mayT sort s), m)) := by
  rcases hs with rfl | rfl | rfl | rfl
  · exact may0_does s
  · exact may1_does s
  · exact may2_does s
  · exact may3_does s hz
variable {A : List Blk} {hw : List Hw} {b : Nat} {ex : Bool} {L : List Tk} {n : Int}
structure TkOk (L : List Tk) : Prop where
  len : L.length ≤ 1000000
  text : ∀ t ∈ L, t.text.size ≤ 1000000
theorem next_gives (hb : b < A.length) (hL : TkOk L) (r : Rs) (sort : Int) (hs : sort = 0 ∨ sort = 1 ∨ sort = 2 ∨ sort = 3) : GivesW Tryd.prog 30 [.ptr b 0, iA sort] ⟨A.set b (rdB ex L n r), hw⟩ (sA (nextS L r sort)) ⟨A.set b (rdB ex L n (nextR L n r sort)), hw⟩ := by
  have g := fun x => s_get (A := A) hb x
  have cF := fail_gives (hw := hw) (ex := ex) (L := L) (n := n) hb r 3 r.i
  unfold nextS nextR
  cases d1 : decide (r.e = 0) with
  | false =>
    have hr : nextOk L r sort = false := by unfold nextOk; rw [d1]; rfl
    rw [hr, if_neg Bool.false_ne_true, if_neg Bool.false_ne_true]
    refine givesW_of' Tryd.func30 rfl (by kernel_rfl) Tryd.ntmps30 rfl rfl fun Q hQ => ?_
    repeat (first | refine tr_seq_k fun _ _ => ?_ | (refine tr_region ?_; simp only [go_sem, reduceCtorEq, Nat.reduceEqDiff, Nat.reduceLT, Nat.reduceLeDiff, Nat.reduceAdd, Nat.reduceMul, Nat.reduceSub, Nat.reduceBEq, ↓reduceIte, g, d1]) | (refine tr_draw (id := 1) follows 10000 [30] [0, 1, 2, 3, 4, 5, 6, 7, 8, 9, 10, 11, 12, 13, 14, 15, 16, 17, 18, 19, 20, 21, 22, 23, 24, 25, 26, 27, 28, 29, 30, 31] (by kernel_rfl) ?_; simp only [go_sem, reduceCtorEq, Nat.reduceEqDiff, Nat.reduceLT, Nat.reduceLeDiff, Nat.reduceAdd, Nat.reduceMul, Nat.reduceSub, Nat.reduceBEq, ↓reduceIte, g, d1]) | refine k_of (by assumption) ?_)
    refine tr_cond rfl (fun ht => ?_) (fun hf => ?_)
    · cases ht
    · repeat (first | refine tr_seq_k fun _ _ => ?_ | (refine tr_region ?_; simp only [go_sem, reduceCtorEq, Nat.reduceEqDiff, Nat.reduceLT, Nat.reduceLeDiff, Nat.reduceAdd, Nat.reduceMul, Nat.reduceSub, Nat.reduceBEq, ↓reduceIte, g]) | (refine call_givesW (cF) ?_; (try dsimp only); (try simp only [go_sem, reduceCtorEq, Nat.reduceEqDiff, Nat.reduceLT, Nat.reduceLeDiff, Nat.reduceAdd, Nat.reduceMul, Nat.reduceSub, Nat.reduceBEq, ↓reduceIte, g])) | refine k_of (by assumption) ?_ | (refine tr_skip ?_; try simp only [ex_seq, ex_block]) | (refine tr_ret ?_; try simp only [ex_seq_ret, ex_block_ret]))
      refine (hQ _ _ [sA ⟨#[]⟩] ?_ rfl rfl).2 <;> simp only [go_sem, reduceCtorEq, Nat.reduceEqDiff, Nat.reduceLT, Nat.reduceLeDiff, Nat.reduceAdd, Nat.reduceMul, Nat.reduceSub, Nat.reduceBEq, ↓reduceIte, Tryd.f30]
  | true =>
    by_cases hj : r.i < L.length
    · have hr : nextOk L r sort = mayT sort L[r.i].text := by unfold nextOk; rw [d1, List.getElem?_eq_getElem hj]; rfl
      have ix := idxTk (ex := ex) hj
      have d2 : decide ((r.i : Int) < (L.length : Nat)) = true := decide_eq_true (by omega)
      have hz := hL.text L[r.i] (List.getElem_mem hj)
      have hlen := hL.len
      have ws := wrap_succ (show r.i ≤ 1000000000 by omega)
      have wp : IntKind.i64.wrap (((r.i + 1 : Nat) : Int) - 1) = (r.i : Int) := by rw [wrap_in (by omega)]; omega
      rw [hr, List.getElem?_eq_getElem hj]
      generalize L[r.i] = t at *
      have cM := may_does sort hs t.text hz
      cases h1 : mayT sort t.text with
      | true =>
        rw [h1] at cM
        rw [if_pos rfl, if_pos rfl]
        refine givesW_of' Tryd.func30 rfl (by kernel_rfl) Tryd.ntmps30 rfl rfl fun Q hQ => ?_
        repeat (first | refine tr_seq_k fun _ _ => ?_ | (refine tr_region ?_; simp only [go_sem, reduceCtorEq, Nat.reduceEqDiff, Nat.reduceLT, Nat.reduceLeDiff, Nat.reduceAdd, Nat.reduceMul, Nat.reduceSub, Nat.reduceBEq, ↓reduceIte, g, d1, d2, ix]) | (refine tr_draw (id := 1) follows 10000 [30] [0, 1, 2, 3, 4, 5, 6, 7, 8, 9, 10, 11, 12, 13, 14, 15, 16, 17, 18, 19, 20, 21, 22, 23, 24, 25, 26, 27, 28, 29, 30, 31] (by kernel_rfl) ?_; simp only [go_sem, reduceCtorEq, Nat.reduceEqDiff, Nat.reduceLT, Nat.reduceLeDiff, Nat.reduceAdd, Nat.reduceMul, Nat.reduceSub, Nat.reduceBEq, ↓reduceIte, g, d1, d2, ix]) | (refine call_of (cM) ?_ ?_; (first | rfl | simp only [go_sem, reduceCtorEq, Nat.reduceEqDiff, Nat.reduceLT, Nat.reduceLeDiff, Nat.reduceAdd, Nat.reduceMul, Nat.reduceSub, Nat.reduceBEq, ↓reduceIte, g, d1, d2, ix, shut_col]); simp only [go_sem, reduceCtorEq, Nat.reduceEqDiff, Nat.reduceLT, Nat.reduceLeDiff, Nat.reduceAdd, Nat.reduceMul, Nat.reduceSub, Nat.reduceBEq, ↓reduceIte, g, d1, d2, ix]) | refine k_of (by assumption) ?_)
        refine tr_cond rfl (fun ht => ?_) (fun hf => ?_)
        · repeat (first | refine tr_seq_k fun _ _ => ?_ | (refine tr_region ?_; simp only [go_sem, reduceCtorEq, Nat.reduceEqDiff, Nat.reduceLT, Nat.reduceLeDiff, Nat.reduceAdd, Nat.reduceMul, Nat.reduceSub, Nat.reduceBEq, ↓reduceIte, g, s_set, ws, wp, ix]) | (refine tr_drawC (id := 3) follows 10000 (by kernel_rfl) ?_; simp only [go_sem, reduceCtorEq, Nat.reduceEqDiff, Nat.reduceLT, Nat.reduceLeDiff, Nat.reduceAdd, Nat.reduceMul, Nat.reduceSub, Nat.reduceBEq, ↓reduceIte, g, s_set, ws, wp, ix]) | refine k_of (by assumption) ?_ | (refine tr_ret ?_; try simp only [ex_seq_ret, ex_block_ret]))
          refine (hQ _ _ [sA t.text] ?_ rfl rfl).2 <;> simp only [go_sem, reduceCtorEq, Nat.reduceEqDiff, Nat.reduceLT, Nat.reduceLeDiff, Nat.reduceAdd, Nat.reduceMul, Nat.reduceSub, Nat.reduceBEq, ↓reduceIte, Tryd.f30]
        · cases hf
      | false =>
        rw [h1] at cM
        rw [if_neg Bool.false_ne_true, if_neg Bool.false_ne_true]
        refine givesW_of' Tryd.func30 rfl (by kernel_rfl) Tryd.ntmps30 rfl rfl fun Q hQ => ?_
        repeat (first | refine tr_seq_k fun _ _ => ?_ | (refine tr_region ?_; simp only [go_sem, reduceCtorEq, Nat.reduceEqDiff, Nat.reduceLT, Nat.reduceLeDiff, Nat.reduceAdd, Nat.reduceMul, Nat.reduceSub, Nat.reduceBEq, ↓reduceIte, g, d1, d2, ix]) | (refine tr_draw (id := 1) follows 10000 [30] [0, 1, 2, 3, 4, 5, 6, 7, 8, 9, 10, 11, 12, 13, 14, 15, 16, 17, 18, 19, 20, 21, 22, 23, 24, 25, 26, 27, 28, 29, 30, 31] (by kernel_rfl) ?_; simp only [go_sem, reduceCtorEq, Nat.reduceEqDiff, Nat.reduceLT, Nat.reduceLeDiff, Nat.reduceAdd, Nat.reduceMul, Nat.reduceSub, Nat.reduceBEq, ↓reduceIte, g, d1, d2, ix]) | (refine call_of (cM) ?_ ?_; (first | rfl | simp only [go_sem, reduceCtorEq, Nat.reduceEqDiff, Nat.reduceLT, Nat.reduceLeDiff, Nat.reduceAdd, Nat.reduceMul, Nat.reduceSub, Nat.reduceBEq, ↓reduceIte, g, d1, d2, ix, shut_col]); simp only [go_sem, reduceCtorEq, Nat.reduceEqDiff, Nat.reduceLT, Nat.reduceLeDiff, Nat.reduceAdd, Nat.reduceMul, Nat.reduceSub, Nat.reduceBEq, ↓reduceIte, g, d1, d2, ix]) | refine k_of (by assumption) ?_)
        refine tr_cond rfl (fun ht => ?_) (fun hf => ?_)
        · cases ht
        · repeat (first | refine tr_seq_k fun _ _ => ?_ | (refine tr_region ?_; simp only [go_sem, reduceCtorEq, Nat.reduceEqDiff, Nat.reduceLT, Nat.reduceLeDiff, Nat.reduceAdd, Nat.reduceMul, Nat.reduceSub, Nat.reduceBEq, ↓reduceIte, g]) | (refine call_givesW (cF) ?_; (try dsimp only); (try simp only [go_sem, reduceCtorEq, Nat.reduceEqDiff, Nat.reduceLT, Nat.reduceLeDiff, Nat.reduceAdd, Nat.reduceMul, Nat.reduceSub, Nat.reduceBEq, ↓reduceIte, g])) | refine k_of (by assumption) ?_ | (refine tr_skip ?_; try simp only [ex_seq, ex_block]) | (refine tr_ret ?_; try simp only [ex_seq_ret, ex_block_ret]))
          refine (hQ _ _ [sA ⟨#[]⟩] ?_ rfl rfl).2 <;> simp only [go_sem, reduceCtorEq, Nat.reduceEqDiff, Nat.reduceLT, Nat.reduceLeDiff, Nat.reduceAdd, Nat.reduceMul, Nat.reduceSub, Nat.reduceBEq, ↓reduceIte, Tryd.f30]
    · have hr : nextOk L r sort = false := by unfold nextOk; rw [d1, List.getElem?_eq_none (by omega)]; rfl
      have d2 : decide ((r.i : Int) < (L.length : Nat)) = false := decide_eq_false (by omega)
      rw [hr, if_neg Bool.false_ne_true, if_neg Bool.false_ne_true]
      refine givesW_of' Tryd.func30 rfl (by kernel_rfl) Tryd.ntmps30 rfl rfl fun Q hQ => ?_
      repeat (first | refine tr_seq_k fun _ _ => ?_ | (refine tr_region ?_; simp only [go_sem, reduceCtorEq, Nat.reduceEqDiff, Nat.reduceLT, Nat.reduceLeDiff, Nat.reduceAdd, Nat.reduceMul, Nat.reduceSub, Nat.reduceBEq, ↓reduceIte, g, d1, d2]) | (refine tr_draw (id := 1) follows 10000 [30] [0, 1, 2, 3, 4, 5, 6, 7, 8, 9, 10, 11, 12, 13, 14, 15, 16, 17, 18, 19, 20, 21, 22, 23, 24, 25, 26, 27, 28, 29, 30, 31] (by kernel_rfl) ?_; simp only [go_sem, reduceCtorEq, Nat.reduceEqDiff, Nat.reduceLT, Nat.reduceLeDiff, Nat.reduceAdd, Nat.reduceMul, Nat.reduceSub, Nat.reduceBEq, ↓reduceIte, g, d1, d2]) | refine k_of (by assumption) ?_)
      refine tr_cond rfl (fun ht => ?_) (fun hf => ?_)
      · cases ht
      · repeat (first | refine tr_seq_k fun _ _ => ?_ | (refine tr_region ?_; simp only [go_sem, reduceCtorEq, Nat.reduceEqDiff, Nat.reduceLT, Nat.reduceLeDiff, Nat.reduceAdd, Nat.reduceMul, Nat.reduceSub, Nat.reduceBEq, ↓reduceIte, g]) | (refine call_givesW (cF) ?_; (try dsimp only); (try simp only [go_sem, reduceCtorEq, Nat.reduceEqDiff, Nat.reduceLT, Nat.reduceLeDiff, Nat.reduceAdd, Nat.reduceMul, Nat.reduceSub, Nat.reduceBEq, ↓reduceIte, g])) | refine k_of (by assumption) ?_ | (refine tr_skip ?_; try simp only [ex_seq, ex_block]) | (refine tr_ret ?_; try simp only [ex_seq_ret, ex_block_ret]))
        refine (hQ _ _ [sA ⟨#[]⟩] ?_ rfl rfl).2 <;> simp only [go_sem, reduceCtorEq, Nat.reduceEqDiff, Nat.reduceLT, Nat.reduceLeDiff, Nat.reduceAdd, Nat.reduceMul, Nat.reduceSub, Nat.reduceBEq, ↓reduceIte, Tryd.f30]
theorem once_gives (hb : b < A.length) (hL : TkOk L) (r : Rs) (was : Bool) (hi : 1 ≤ r.i) (hi2 : r.i ≤ L.length) : GivesW Tryd.prog 34 [.ptr b 0, bA was] ⟨A.set b (rdB ex L n r), hw⟩ (.tup []) ⟨A.set b (rdB ex L n (onceR L n r was)), hw⟩ := by
  have g := fun x => s_get (A := A) hb x
  have hlen := hL.len
  have wp : IntKind.i64.wrap ((r.i : Int) - 1) = ((r.i - 1 : Nat) : Int) := by rw [wrap_in (by omega)]; omega
  have cF := fail_gives (hw := hw) (ex := ex) (L := L) (n := n) hb r 5 (r.i - 1)
  cases was with
  | true =>
    refine givesW_of' Tryd.func34 rfl (by kernel_rfl) Tryd.ntmps34 rfl rfl fun Q hQ => ?_
    repeat (first | refine tr_seq_k fun _ _ => ?_ | (refine tr_region ?_; simp only [go_sem, reduceCtorEq, Nat.reduceEqDiff, Nat.reduceLT, Nat.reduceLeDiff, Nat.reduceAdd, Nat.reduceMul, Nat.reduceSub, Nat.reduceBEq, ↓reduceIte]) | refine k_of (by assumption) ?_)
    refine tr_cond rfl (fun ht => ?_) (fun hf => ?_)
    · repeat (first | (refine tr_region ?_; simp only [go_sem, reduceCtorEq, Nat.reduceEqDiff, Nat.reduceLT, Nat.reduceLeDiff, Nat.reduceAdd, Nat.reduceMul, Nat.reduceSub, Nat.reduceBEq, ↓reduceIte, g, wp]) | (refine call_givesW (cF) ?_; (try dsimp only); (try simp only [go_sem, reduceCtorEq, Nat.reduceEqDiff, Nat.reduceLT, Nat.reduceLeDiff, Nat.reduceAdd, Nat.reduceMul, Nat.reduceSub, Nat.reduceBEq, ↓reduceIte, g, wp])))
      exact (hQ _ _ [] rfl rfl rfl).1
    · cases hf
  | false =>
    refine givesW_of' Tryd.func34 rfl (by kernel_rfl) Tryd.ntmps34 rfl rfl fun Q hQ => ?_
    repeat (first | refine tr_seq_k fun _ _ => ?_ | (refine tr_region ?_; simp only [go_sem, reduceCtorEq, Nat.reduceEqDiff, Nat.reduceLT, Nat.reduceLeDiff, Nat.reduceAdd, Nat.reduceMul, Nat.reduceSub, Nat.reduceBEq, ↓reduceIte]) | refine k_of (by assumption) ?_)
    refine tr_cond rfl (fun ht => ?_) (fun hf => ?_)
    · cases ht
    · repeat ((refine tr_skip ?_; try simp only [ex_seq, ex_block]))
      exact (hQ _ _ [] rfl rfl rfl).1
end Go.Proofs.YtaeehadibckcjaaDoor
namespace Go.Proofs.YtaeehadibckcjaaDoor
open Go.RowKit Go.Vs Go.Vs.Ab
set_option maxRecDepth 100000
set_option maxHeartbeats 4000000
variable {A : List Blk} {hw : List Hw} {b : Nat} {ex : Bool} {L : List Tk} {n : Int}
theorem low_re {i j : Nat} {x y : Blk} (hx : lowB i j (A.set b x) = true) (hy : lows i j y.cs = true) : lowB i j (A.set b y) = true := by
  have := lowB_setb hy b hx
  rwa [List.set_set] at this
theorem low_ext {i j i' : Nat} {x y : Blk} {E : List Blk} (hx : lowB i j (A.set b x) = true) (hi : i ≤ i') (hy : lows i' j y.cs = true) (hE : lowB i' j E = true) : lowB i' j (A.set b y ++ E) = true := by
  rw [lowB_cat, hE, Bool.and_true]
  exact low_re (lowB_up hi (Nat.le_refl _) hx) hy
theorem withE {F : FuncId} {args : List AV} {r0 : AV} {x y : Blk} (h : ∀ A' : List Blk, b < A'.length → GivesW Tryd.prog F args ⟨A'.set b x, hw⟩ r0 ⟨A'.set b y, hw⟩) (hb : b < A.length) (E : List Blk) : GivesW Tryd.prog F args ⟨A.set b x ++ E, hw⟩ r0 ⟨A.set b y ++ E, hw⟩ := by
  have := h (A ++ E) (by rw [List.length_append]; omega)
  rwa [set_app hb, set_app hb] at this
theorem conv_b (x : Int) : pureVal Tryd.prog (convert 5 3 (.int .u8 x)) = some (.int .i64 (IntKind.i64.wrap x)) := by
  unfold convert
  simp [pv_bind, pv_under Tryd.underlying5, pv_under Tryd.underlying3]
  rfl
theorem nextS3 (L : List Tk) (r : Rs) : (∀ c ∈ lts (nextS L r 3), digB c = true) ∧ (nextS L r 3).size ≤ 7 := by
  unfold nextS
  split
  · rename_i h
    unfold nextOk at h
    rw [Bool.and_eq_true] at h
    cases hl : L[r.i]? with
    | none => exact ⟨fun c hc => (by cases hc), Nat.zero_le _⟩
    | some t =>
      rw [hl] at h
      have h2 : pnum t.text = true := h.2
      unfold pnum at h2
      simp only [Bool.and_eq_true, List.all_eq_true, decide_eq_true_eq] at h2
      exact ⟨h2.1, by have := h2.2.2.1; dsimp only; omega⟩
  · exact ⟨fun c hc => (by cases hc), Nat.zero_le _⟩
theorem number_gives (hb : b < A.length) (hL : TkOk L) (r : Rs) : GivesW Tryd.prog 32 [.ptr b 0] ⟨A.set b (rdB ex L n r), hw⟩ (iA (numB (nextS L r 3))) ⟨A.set b (rdB ex L n (nextR L n r 3)), hw⟩ := by
  have cN := next_gives (hw := hw) (ex := ex) (n := n) hb hL r 3 (by omega)
  obtain ⟨hd, hz⟩ := nextS3 L r
  generalize nextS L r 3 = s at *
  generalize nextR L n r 3 = r1 at *
  have lsz := lts_len s
  have hpow : ∀ k, k ≤ 7 → (10 ^ k : Nat) ≤ 10000000 := fun k hk => by
    have := Nat.pow_le_pow_right (n := 10) (by decide) hk
    exact this
  refine givesW_of' Tryd.func32 rfl (by kernel_rfl) Tryd.ntmps32 rfl rfl fun Q hQ => ?_
  refine tr_low fun hW => ?_
  repeat (first | refine tr_seq_k fun _ _ => ?_ | (refine tr_region ?_; simp only [go_sem, reduceCtorEq, Nat.reduceEqDiff, Nat.reduceLT, Nat.reduceLeDiff, Nat.reduceAdd, Nat.reduceMul, Nat.reduceSub, Nat.reduceBEq, ↓reduceIte]) | (refine call_givesW (cN) ?_; (try dsimp only); (try simp only [go_sem, reduceCtorEq, Nat.reduceEqDiff, Nat.reduceLT, Nat.reduceLeDiff, Nat.reduceAdd, Nat.reduceMul, Nat.reduceSub, Nat.reduceBEq, ↓reduceIte])) | refine k_of (by assumption) ?_ | refine tr_block ?_)
  refine tr_loop_k (σ := Nat) (fun k => [(3, sA s), (4, iA (numK ((lts s).take k))), (5, iA k)]) (fun _ => ⟨A.set b (rdB ex L n r1), hw⟩) (fun k => k ≤ (lts s).length) (fun k => (lts s).length - k) 0 (Nat.zero_le _) ⟨rfl, rfl, rfl, trivial⟩ rfl ?_
  rintro k hk K hK
  by_cases hkl : k < (lts s).length
  · have d1 : decide ((k : Int) < (s.size : Nat)) = true := decide_eq_true (by omega)
    have ix := idx_str s hkl
    have ws := wrap_succ (show k ≤ 1000000000 by omega)
    obtain ⟨q1, q2⟩ := numK_take hd k hk
    have q3 := hpow k (by omega)
    have hs := numK_snoc ((lts s).take k) (lts s)[k]
    rw [← List.take_succ_eq_append_getElem hkl] at hs
    have hc := hd (lts s)[k] (List.getElem_mem hkl)
    generalize (lts s)[k] = c at *
    generalize numK ((lts s).take k) = x at *
    simp only [digB, Bool.and_eq_true, decide_eq_true_eq] at hc
    have w1 : IntKind.i64.wrap (10 * x) = 10 * x := wrap_in (by omega)
    have w2 : IntKind.u8.wrap ((c.toNat : Int) - 48) = (c.toNat : Int) - 48 := by
      have : IntKind.u8.wrap ((c.toNat : Int) - 48) = ((c.toNat : Int) - 48) % 256 := rfl
      rw [this]; omega
    have w3 : IntKind.i64.wrap ((c.toNat : Int) - 48) = (c.toNat : Int) - 48 := wrap_in (by omega)
    have w4 : IntKind.i64.wrap (10 * x + ((c.toNat : Int) - 48)) = 10 * x + ((c.toNat : Int) - 48) := wrap_in (by omega)
    repeat (first | refine tr_seq_k fun _ _ => ?_ | (refine tr_region ?_; simp only [go_sem, reduceCtorEq, Nat.reduceEqDiff, Nat.reduceLT, Nat.reduceLeDiff, Nat.reduceAdd, Nat.reduceMul, Nat.reduceSub, Nat.reduceBEq, ↓reduceIte, d1]) | refine k_of (by assumption) ?_)
    refine tr_cond rfl (fun ht => ?_) (fun hf => ?_)
    · repeat (first | refine tr_seq_k fun _ _ => ?_ | (refine tr_region ?_; simp only [go_sem, reduceCtorEq, Nat.reduceEqDiff, Nat.reduceLT, Nat.reduceLeDiff, Nat.reduceAdd, Nat.reduceMul, Nat.reduceSub, Nat.reduceBEq, ↓reduceIte, ix, w1, w2, w3, w4, conv_b, ws]) | refine k_of (by assumption) ?_ | refine tr_block ?_ | (refine tr_skip ?_; try simp only [ex_seq, ex_block]))
      exact hK (k + 1) _ _ hkl ⟨⟨rfl, by rw [hs]; rfl, rfl, trivial⟩, Keep.refl _, rfl, by rw [List.length_set] at hW ⊢; exact low_re hW rfl, Nat.le_refl _, Nat.le_refl _⟩ (by omega)
    · cases hf
  · have d1 : decide ((k : Int) < (s.size : Nat)) = false := decide_eq_false (by omega)
    obtain rfl : k = (lts s).length := by omega
    rw [List.take_length]
    repeat (first | refine tr_seq_k fun _ _ => ?_ | (refine tr_region ?_; simp only [go_sem, reduceCtorEq, Nat.reduceEqDiff, Nat.reduceLT, Nat.reduceLeDiff, Nat.reduceAdd, Nat.reduceMul, Nat.reduceSub, Nat.reduceBEq, ↓reduceIte, d1]) | refine k_of (by assumption) ?_)
    refine tr_cond rfl (fun ht => ?_) (fun hf => ?_)
    · cases ht
    · repeat (first | refine tr_seq_k fun _ _ => ?_ | (refine tr_region ?_; simp only [go_sem, reduceCtorEq, Nat.reduceEqDiff, Nat.reduceLT, Nat.reduceLeDiff, Nat.reduceAdd, Nat.reduceMul, Nat.reduceSub, Nat.reduceBEq, ↓reduceIte]) | refine k_of (by assumption) ?_ | (refine tr_exit ?_; try simp only [ex_seq_exit, ex_block_exit, Nat.reduceEqDiff, if_true, if_false, ex_seq, ex_block, reduceCtorEq, ↓reduceIte]) | (refine tr_ret ?_; try simp only [ex_seq_ret, ex_block_ret]))
      refine (hQ _ _ [iA (numK (lts s))] ?_ rfl rfl).2 <;> simp only [go_sem, reduceCtorEq, Nat.reduceEqDiff, Nat.reduceLT, Nat.reduceLeDiff, Nat.reduceAdd, Nat.reduceMul, Nat.reduceSub, Nat.reduceBEq, ↓reduceIte, Tryd.f32]
/-! ### what is said -/
def atX (says pred : ByteArray) (ts : List Tm) : List AV := [sA says, sA pred, iA ts.length, bA (ts.getD 0 noT).v, sA (ts.getD 0 noT).name, bA (ts.getD 1 noT).v, sA (ts.getD 1 noT).name, bA (ts.getD 2 noT).v, sA (ts.getD 2 noT).name, bA (ts.getD 3 noT).v, sA (ts.getD 3 noT).name]
abbrev atZ0 : Blk := ⟨false, [sA ⟨#[]⟩, sA ⟨#[]⟩, iA 0, bA false, sA ⟨#[]⟩, bA false, sA ⟨#[]⟩, bA false, sA ⟨#[]⟩, bA false, sA ⟨#[]⟩]⟩
theorem len_cases {ts : List Tm} (h : ts.length ≤ 3) : ts = [] ∨ (∃ a, ts = [a]) ∨ (∃ a c, ts = [a, c]) ∨ ∃ a c d, ts = [a, c, d] := by
  match ts, h with
  | [], _ => exact Or.inl rfl
  | [a], _ => exact Or.inr (Or.inl ⟨a, rfl⟩)
  | [a, c], _ => exact Or.inr (Or.inr (Or.inl ⟨a, c, rfl⟩))
  | [a, c, d], _ => exact Or.inr (Or.inr (Or.inr ⟨a, c, d, rfl⟩))
theorem saidL_succ (L : List Tk) (n : Int) (f : Nat) (r : Rs) (ts : List Tm) : saidL L n (f + 1) r ts =
    if r.e = 0 then
      if (nextR L n r 2).e = 0 then
        if ts.length = 4 then ((nextR L n r 2).fail L n 4 r.i, ts)
        else if isT L (nextR L n r 2) kCom then saidL L n f (nextR L n r 2).adv (ts ++ [⟨pvariable (nextS L r 2), nextS L r 2⟩])
        else (nextR L n r 2, ts ++ [⟨pvariable (nextS L r 2), nextS L r 2⟩])
      else (nextR L n r 2, ts)
    else (r, ts) := rfl
theorem isT_bad {L : List Tk} {r : Rs} (s : ByteArray) (h : r.e ≠ 0) : isT L r s = false := by
  unfold isT
  rw [decide_eq_false h]
  rfl
theorem ixArr (B off : Nat) {k : Nat} (h : k < 4) : aIndexAddr Tryd.prog 40 (.ptr B off) (.c (.v (.int .i64 (k : Int)))) = some (.ptr B (off + k * 2)) := by
  have h1 : Nat.blt k 4 = true := by simpa using h
  have hn : ¬ ((k : Int) < 0) := by omega
  simp only [aIndexAddr, intV, Tryd.underlying40, sz39, Int.toNat_natCast, h1, if_true, hn, decide_false, Bool.false_eq_true, if_false]
theorem said_raw (hb : b < A.length) (hL : TkOk L) (r : Rs) (says : ByteArray) : ∃ y z : Blk, GivesW Tryd.prog 63 [.ptr b 0, sA says] ⟨A.set b (rdB ex L n r), hw⟩ (atA (saidF L n r says).2) ⟨A.set b (rdB ex L n (saidF L n r says).1) ++ [y, z], hw⟩ := by
  have g := fun (E : List Blk) x => sa_get (A := A) (E := E) hb x
  have g' := fun x => s_get (A := A) hb x
  have t := fun (E : List Blk) x y => sa_set (A := A) (E := E) hb x y
  have cN1 := withE (fun A' hb' => next_gives (A := A') (hw := hw) (ex := ex) (n := n) hb' hL r 1 (by omega)) hb [atZ0]
  unfold saidF
  obtain ⟨r1, hr1⟩ : ∃ r1, r1 = nextR L n r 1 := ⟨_, rfl⟩
  rw [← hr1] at cN1 ⊢
  generalize nextS L r 1 = p at *
  have cM := withE (fun A' hb' => maybe_gives (A := A') (hw := hw) (ex := ex) (n := n) hb' hL.len r1 kOpen) hb [atZ0, ⟨false, atX says p []⟩]
  unfold maybeR at cM
  cases h1 : isT L r1 kOpen with
  | false =>
    rw [h1, if_neg Bool.false_ne_true] at cM
    rw [if_neg Bool.false_ne_true]
    refine ⟨⟨false, atX says p []⟩, ⟨false, atX says p []⟩, ?_⟩
    refine givesW_of' Tryd.func63 rfl (by kernel_rfl) Tryd.ntmps63 rfl rfl fun Q hQ => ?_
    repeat (first | refine tr_seq_k fun _ _ => ?_ | (refine tr_region ?_; simp only [go_sem, reduceCtorEq, Nat.reduceEqDiff, Nat.reduceLT, Nat.reduceLeDiff, Nat.reduceAdd, Nat.reduceMul, Nat.reduceSub, Nat.reduceBEq, ↓reduceIte, g, g', t, s_set, List.length_set, List.length_append, List.length_cons, List.length_nil, List.append_assoc, List.cons_append, List.nil_append, sa_get0, sa_get1, sa_set0, sa_set1]) | (refine call_givesW (cN1) ?_; (try dsimp only); (try simp only [go_sem, reduceCtorEq, Nat.reduceEqDiff, Nat.reduceLT, Nat.reduceLeDiff, Nat.reduceAdd, Nat.reduceMul, Nat.reduceSub, Nat.reduceBEq, ↓reduceIte, g, g', t, s_set, List.length_set, List.length_append, List.length_cons, List.length_nil, List.append_assoc, List.cons_append, List.nil_append, sa_get0, sa_get1, sa_set0, sa_set1])) | (refine call_givesW (cM) ?_; (try dsimp only); (try simp only [go_sem, reduceCtorEq, Nat.reduceEqDiff, Nat.reduceLT, Nat.reduceLeDiff, Nat.reduceAdd, Nat.reduceMul, Nat.reduceSub, Nat.reduceBEq, ↓reduceIte, g, g', t, s_set, List.length_set, List.length_append, List.length_cons, List.length_nil, List.append_assoc, List.cons_append, List.nil_append, sa_get0, sa_get1, sa_set0, sa_set1])) | refine k_of (by assumption) ?_)
    refine tr_cond rfl (fun ht => ?_) (fun hf => ?_)
    · repeat (first | refine tr_seq_k fun _ _ => ?_ | (refine tr_region ?_; simp only [go_sem, reduceCtorEq, Nat.reduceEqDiff, Nat.reduceLT, Nat.reduceLeDiff, Nat.reduceAdd, Nat.reduceMul, Nat.reduceSub, Nat.reduceBEq, ↓reduceIte, g, g', t, s_set, List.length_set, List.length_append, List.length_cons, List.length_nil, List.append_assoc, List.cons_append, List.nil_append, sa_get0, sa_get1, sa_set0, sa_set1, atX]) | refine k_of (by assumption) ?_ | (refine tr_ret ?_; try simp only [ex_seq_ret, ex_block_ret]))
      refine (hQ _ _ [.agg [.v (.string says), .v (.string p), .v (.int .i64 (([] : List Tm).length : Nat)), .v (.bool (([] : List Tm).getD 0 noT).v), .v (.string (([] : List Tm).getD 0 noT).name), .v (.bool (([] : List Tm).getD 1 noT).v), .v (.string (([] : List Tm).getD 1 noT).name), .v (.bool (([] : List Tm).getD 2 noT).v), .v (.string (([] : List Tm).getD 2 noT).name), .v (.bool (([] : List Tm).getD 3 noT).v), .v (.string (([] : List Tm).getD 3 noT).name)]] ?_ rfl rfl).2 <;> simp only [go_sem, reduceCtorEq, Nat.reduceEqDiff, Nat.reduceLT, Nat.reduceLeDiff, Nat.reduceAdd, Nat.reduceMul, Nat.reduceSub, Nat.reduceBEq, ↓reduceIte, Tryd.f63, g, g', t, s_set, List.length_set, List.length_append, List.length_cons, List.length_nil, List.append_assoc, List.cons_append, List.nil_append, sa_get0, sa_get1, sa_set0, sa_set1, atX]
    · cases hf
  | true =>
    rw [h1, if_pos rfl] at cM
    rw [if_pos rfl]
    obtain ⟨T, hT⟩ : ∃ T, T = saidL L n 5 r1.adv [] := ⟨_, rfl⟩
    rw [← hT]
    have cMe := withE (fun A' hb' => must_gives (A := A') (hw := hw) (ex := ex) (n := n) hb' hL.len T.1 kShut) hb [atZ0, ⟨false, atX says p T.2⟩]
    refine ⟨⟨false, atX says p T.2⟩, ⟨false, atX says p T.2⟩, ?_⟩
    refine givesW_of' Tryd.func63 rfl (by kernel_rfl) Tryd.ntmps63 rfl rfl fun Q hQ => ?_
    refine tr_low fun hW => ?_
    rw [List.length_set] at hW
    repeat (first | refine tr_seq_k fun _ _ => ?_ | (refine tr_region ?_; simp only [go_sem, reduceCtorEq, Nat.reduceEqDiff, Nat.reduceLT, Nat.reduceLeDiff, Nat.reduceAdd, Nat.reduceMul, Nat.reduceSub, Nat.reduceBEq, ↓reduceIte, g, g', t, s_set, List.length_set, List.length_append, List.length_cons, List.length_nil, List.append_assoc, List.cons_append, List.nil_append, sa_get0, sa_get1, sa_set0, sa_set1]) | (refine call_givesW (cN1) ?_; (try dsimp only); (try simp only [go_sem, reduceCtorEq, Nat.reduceEqDiff, Nat.reduceLT, Nat.reduceLeDiff, Nat.reduceAdd, Nat.reduceMul, Nat.reduceSub, Nat.reduceBEq, ↓reduceIte, g, g', t, s_set, List.length_set, List.length_append, List.length_cons, List.length_nil, List.append_assoc, List.cons_append, List.nil_append, sa_get0, sa_get1, sa_set0, sa_set1])) | (refine call_givesW (cM) ?_; (try dsimp only); (try simp only [go_sem, reduceCtorEq, Nat.reduceEqDiff, Nat.reduceLT, Nat.reduceLeDiff, Nat.reduceAdd, Nat.reduceMul, Nat.reduceSub, Nat.reduceBEq, ↓reduceIte, g, g', t, s_set, List.length_set, List.length_append, List.length_cons, List.length_nil, List.append_assoc, List.cons_append, List.nil_append, sa_get0, sa_get1, sa_set0, sa_set1])) | refine k_of (by assumption) ?_)
    refine tr_cond rfl (fun ht => ?_) (fun hf => ?_)
    · cases ht
    repeat (first | refine tr_seq_k fun _ _ => ?_ | (refine tr_region ?_; simp only [go_sem, reduceCtorEq, Nat.reduceEqDiff, Nat.reduceLT, Nat.reduceLeDiff, Nat.reduceAdd, Nat.reduceMul, Nat.reduceSub, Nat.reduceBEq, ↓reduceIte]) | refine k_of (by assumption) ?_ | refine tr_block ?_ | (refine tr_skip ?_; try simp only [ex_seq, ex_block]))
    refine tr_loop_k (σ := Bool × Nat × Rs × List Tm) (fun q => [(0, .ptr b 0), (4, .ptr A.length 0), (5, .ptr (A.length + 1) 0), (6, bA q.1)]) (fun q => ⟨A.set b (rdB ex L n q.2.2.1) ++ [atZ0, ⟨false, atX says p q.2.2.2⟩], hw⟩)
      (fun q => (q.1 = true → saidL L n q.2.1 q.2.2.1 q.2.2.2 = T ∧ q.2.2.2.length + q.2.1 = 5 ∧ q.2.2.2.length ≤ 4) ∧ (q.1 = false → (q.2.2.1, q.2.2.2) = T)) (fun q => if q.1 then q.2.1 + 1 else 0) (true, 5, r1.adv, []) ⟨fun _ => ⟨hT.symm, rfl, Nat.zero_le _⟩, (fun h => by cases h)⟩ ⟨rfl, rfl, rfl, rfl, trivial⟩ rfl ?_
    rintro ⟨more, f, r2, ts⟩ ⟨hI1, hI2⟩ K hK
    dsimp only at hI1 hI2 ⊢
    cases more with
    | false =>
      obtain rfl := hI2 rfl
      repeat (first | refine tr_seq_k fun _ _ => ?_ | (refine tr_region ?_; simp only [go_sem, reduceCtorEq, Nat.reduceEqDiff, Nat.reduceLT, Nat.reduceLeDiff, Nat.reduceAdd, Nat.reduceMul, Nat.reduceSub, Nat.reduceBEq, ↓reduceIte, g, g', t, s_set, List.length_set, List.length_append, List.length_cons, List.length_nil, List.append_assoc, List.cons_append, List.nil_append, sa_get0, sa_get1, sa_set0, sa_set1]) | refine k_of (by assumption) ?_)
      refine tr_cond rfl (fun ht => ?_) (fun hf => ?_)
      · cases ht
      · dsimp only at cMe
        repeat (first | refine tr_seq_k fun _ _ => ?_ | (refine tr_region ?_; simp only [go_sem, reduceCtorEq, Nat.reduceEqDiff, Nat.reduceLT, Nat.reduceLeDiff, Nat.reduceAdd, Nat.reduceMul, Nat.reduceSub, Nat.reduceBEq, ↓reduceIte, g, g', t, s_set, List.length_set, List.length_append, List.length_cons, List.length_nil, List.append_assoc, List.cons_append, List.nil_append, sa_get0, sa_get1, sa_set0, sa_set1, atX]) | (refine call_givesW (cMe) ?_; (try dsimp only); (try simp only [go_sem, reduceCtorEq, Nat.reduceEqDiff, Nat.reduceLT, Nat.reduceLeDiff, Nat.reduceAdd, Nat.reduceMul, Nat.reduceSub, Nat.reduceBEq, ↓reduceIte, g, g', t, s_set, List.length_set, List.length_append, List.length_cons, List.length_nil, List.append_assoc, List.cons_append, List.nil_append, sa_get0, sa_get1, sa_set0, sa_set1, atX])) | refine k_of (by assumption) ?_ | (refine tr_exit ?_; try simp only [ex_seq_exit, ex_block_exit, Nat.reduceEqDiff, if_true, if_false, ex_seq, ex_block, reduceCtorEq, ↓reduceIte]) | (refine tr_ret ?_; try simp only [ex_seq_ret, ex_block_ret]))
        refine (hQ _ _ [.agg [.v (.string says), .v (.string p), .v (.int .i64 (ts.length : Nat)), .v (.bool (ts.getD 0 noT).v), .v (.string (ts.getD 0 noT).name), .v (.bool (ts.getD 1 noT).v), .v (.string (ts.getD 1 noT).name), .v (.bool (ts.getD 2 noT).v), .v (.string (ts.getD 2 noT).name), .v (.bool (ts.getD 3 noT).v), .v (.string (ts.getD 3 noT).name)]] ?_ rfl rfl).2 <;> simp only [go_sem, reduceCtorEq, Nat.reduceEqDiff, Nat.reduceLT, Nat.reduceLeDiff, Nat.reduceAdd, Nat.reduceMul, Nat.reduceSub, Nat.reduceBEq, ↓reduceIte, Tryd.f63, g, g', t, s_set, List.length_set, List.length_append, List.length_cons, List.length_nil, List.append_assoc, List.cons_append, List.nil_append, sa_get0, sa_get1, sa_set0, sa_set1, atX]
    | true =>
      obtain ⟨hS, hlen, h4⟩ := hI1 rfl
      obtain ⟨f, rfl⟩ : ∃ f', f = f' + 1 := ⟨f - 1, by omega⟩
      rw [saidL_succ] at hS
      cases d1 : decide (r2.e = 0) with
      | false =>
        rw [if_neg (of_decide_eq_false d1)] at hS
        obtain rfl := hS
        repeat (first | refine tr_seq_k fun _ _ => ?_ | (refine tr_region ?_; simp only [go_sem, reduceCtorEq, Nat.reduceEqDiff, Nat.reduceLT, Nat.reduceLeDiff, Nat.reduceAdd, Nat.reduceMul, Nat.reduceSub, Nat.reduceBEq, ↓reduceIte, g, g', t, s_set, List.length_set, List.length_append, List.length_cons, List.length_nil, List.append_assoc, List.cons_append, List.nil_append, sa_get0, sa_get1, sa_set0, sa_set1, d1]) | refine k_of (by assumption) ?_)
        refine tr_cond rfl (fun ht => ?_) (fun hf => ?_)
        · cases ht
        · dsimp only at cMe
          repeat (first | refine tr_seq_k fun _ _ => ?_ | (refine tr_region ?_; simp only [go_sem, reduceCtorEq, Nat.reduceEqDiff, Nat.reduceLT, Nat.reduceLeDiff, Nat.reduceAdd, Nat.reduceMul, Nat.reduceSub, Nat.reduceBEq, ↓reduceIte, g, g', t, s_set, List.length_set, List.length_append, List.length_cons, List.length_nil, List.append_assoc, List.cons_append, List.nil_append, sa_get0, sa_get1, sa_set0, sa_set1, atX]) | (refine call_givesW (cMe) ?_; (try dsimp only); (try simp only [go_sem, reduceCtorEq, Nat.reduceEqDiff, Nat.reduceLT, Nat.reduceLeDiff, Nat.reduceAdd, Nat.reduceMul, Nat.reduceSub, Nat.reduceBEq, ↓reduceIte, g, g', t, s_set, List.length_set, List.length_append, List.length_cons, List.length_nil, List.append_assoc, List.cons_append, List.nil_append, sa_get0, sa_get1, sa_set0, sa_set1, atX])) | refine k_of (by assumption) ?_ | (refine tr_exit ?_; try simp only [ex_seq_exit, ex_block_exit, Nat.reduceEqDiff, if_true, if_false, ex_seq, ex_block, reduceCtorEq, ↓reduceIte]) | (refine tr_ret ?_; try simp only [ex_seq_ret, ex_block_ret]))
          refine (hQ _ _ [.agg [.v (.string says), .v (.string p), .v (.int .i64 (ts.length : Nat)), .v (.bool (ts.getD 0 noT).v), .v (.string (ts.getD 0 noT).name), .v (.bool (ts.getD 1 noT).v), .v (.string (ts.getD 1 noT).name), .v (.bool (ts.getD 2 noT).v), .v (.string (ts.getD 2 noT).name), .v (.bool (ts.getD 3 noT).v), .v (.string (ts.getD 3 noT).name)]] ?_ rfl rfl).2 <;> simp only [go_sem, reduceCtorEq, Nat.reduceEqDiff, Nat.reduceLT, Nat.reduceLeDiff, Nat.reduceAdd, Nat.reduceMul, Nat.reduceSub, Nat.reduceBEq, ↓reduceIte, Tryd.f63, g, g', t, s_set, List.length_set, List.length_append, List.length_cons, List.length_nil, List.append_assoc, List.cons_append, List.nil_append, sa_get0, sa_get1, sa_set0, sa_set1, atX]
      | true =>
        rw [if_pos (of_decide_eq_true d1)] at hS
        have cN2 := withE (fun A' hb' => next_gives (A := A') (hw := hw) (ex := ex) (n := n) hb' hL r2 2 (by omega)) hb [atZ0, ⟨false, atX says p ts⟩]
        generalize nextR L n r2 2 = r3 at *
        generalize nextS L r2 2 = s at *
        have cV := variable_does s
        have px : plainB (atX says p ts) = true := rfl
        have gx : (atX says p ts)[2]? = some (iA ts.length) := rfl
        cases d2 : decide (r3.e = 0) with
        | false =>
          rw [if_neg (of_decide_eq_false d2)] at hS
          have cC := withE (fun A' hb' => maybe_gives (A := A') (hw := hw) (ex := ex) (n := n) hb' hL.len r3 kCom) hb [atZ0, ⟨false, atX says p ts⟩]
          unfold maybeR at cC
          rw [isT_bad _ (of_decide_eq_false d2), if_neg Bool.false_ne_true] at cC
          repeat (first | refine tr_seq_k fun _ _ => ?_ | (refine tr_region ?_; simp only [go_sem, reduceCtorEq, Nat.reduceEqDiff, Nat.reduceLT, Nat.reduceLeDiff, Nat.reduceAdd, Nat.reduceMul, Nat.reduceSub, Nat.reduceBEq, ↓reduceIte, g, g', t, s_set, List.length_set, List.length_append, List.length_cons, List.length_nil, List.append_assoc, List.cons_append, List.nil_append, sa_get0, sa_get1, sa_set0, sa_set1, d1]) | refine k_of (by assumption) ?_)
          refine tr_cond rfl (fun ht => ?_) (fun hf => ?_)
          · repeat (first | refine tr_seq_k fun _ _ => ?_ | (refine tr_region ?_; simp only [go_sem, reduceCtorEq, Nat.reduceEqDiff, Nat.reduceLT, Nat.reduceLeDiff, Nat.reduceAdd, Nat.reduceMul, Nat.reduceSub, Nat.reduceBEq, ↓reduceIte, g, g', t, s_set, List.length_set, List.length_append, List.length_cons, List.length_nil, List.append_assoc, List.cons_append, List.nil_append, sa_get0, sa_get1, sa_set0, sa_set1, d1, d2]) | (refine call_givesW (cN2) ?_; (try dsimp only); (try simp only [go_sem, reduceCtorEq, Nat.reduceEqDiff, Nat.reduceLT, Nat.reduceLeDiff, Nat.reduceAdd, Nat.reduceMul, Nat.reduceSub, Nat.reduceBEq, ↓reduceIte, g, g', t, s_set, List.length_set, List.length_append, List.length_cons, List.length_nil, List.append_assoc, List.cons_append, List.nil_append, sa_get0, sa_get1, sa_set0, sa_set1, d1, d2])) | refine k_of (by assumption) ?_ | refine tr_block ?_ | (refine tr_skip ?_; try simp only [ex_seq, ex_block]))
            refine tr_cond rfl (fun ht => ?_) (fun hf => ?_)
            · cases ht
            · repeat (first | refine tr_seq_k fun _ _ => ?_ | (refine tr_region ?_; simp only [go_sem, reduceCtorEq, Nat.reduceEqDiff, Nat.reduceLT, Nat.reduceLeDiff, Nat.reduceAdd, Nat.reduceMul, Nat.reduceSub, Nat.reduceBEq, ↓reduceIte, g, g', t, s_set, List.length_set, List.length_append, List.length_cons, List.length_nil, List.append_assoc, List.cons_append, List.nil_append, sa_get0, sa_get1, sa_set0, sa_set1, d2]) | refine k_of (by assumption) ?_ | (refine tr_skip ?_; try simp only [ex_seq, ex_block]))
              refine tr_cond rfl (fun ht => ?_) (fun hf => ?_)
              · cases ht
              · repeat (first | (refine tr_region ?_; simp only [go_sem, reduceCtorEq, Nat.reduceEqDiff, Nat.reduceLT, Nat.reduceLeDiff, Nat.reduceAdd, Nat.reduceMul, Nat.reduceSub, Nat.reduceBEq, ↓reduceIte, g, g', t, s_set, List.length_set, List.length_append, List.length_cons, List.length_nil, List.append_assoc, List.cons_append, List.nil_append, sa_get0, sa_get1, sa_set0, sa_set1]) | (refine call_givesW (cC) ?_; (try dsimp only); (try simp only [go_sem, reduceCtorEq, Nat.reduceEqDiff, Nat.reduceLT, Nat.reduceLeDiff, Nat.reduceAdd, Nat.reduceMul, Nat.reduceSub, Nat.reduceBEq, ↓reduceIte, g, g', t, s_set, List.length_set, List.length_append, List.length_cons, List.length_nil, List.append_assoc, List.cons_append, List.nil_append, sa_get0, sa_get1, sa_set0, sa_set1])) | refine k_of (by assumption) ?_ | (refine tr_skip ?_; try simp only [ex_seq, ex_block]))
                exact hK (false, f, r3, ts) _ _ ⟨(fun h => by cases h), fun _ => hS⟩ ⟨⟨rfl, rfl, rfl, rfl, trivial⟩, Keep.refl _, by simp only [lowF, low, List.length_append, List.length_set, List.length_cons, List.length_nil, Nat.blt_eq, Bool.and_eq_true, and_true]; omega, by simp only [List.length_append, List.length_set, List.length_cons, List.length_nil]; exact low_ext hW (by omega) rfl rfl, by simp only [List.length_append, List.length_set]; exact Nat.le_refl _, Nat.le_refl _⟩ (by simp)
          · cases hf
        | true =>
          rw [if_pos (of_decide_eq_true d2)] at hS
          by_cases hl4 : ts.length = 4
          · rw [if_pos hl4] at hS
            have d3 : decide ((ts.length : Int) = 4) = true := decide_eq_true (by omega)
            have cF := withE (fun A' hb' => fail_gives (A := A') (hw := hw) (ex := ex) (L := L) (n := n) hb' r3 4 r2.i) hb [atZ0, ⟨false, atX says p ts⟩]
            have hfe : (r3.fail L n 4 r2.i).e = 4 := by
              unfold Rs.fail
              rw [if_pos (of_decide_eq_true d2)]
            generalize r3.fail L n 4 r2.i = r4 at *
            have d4 : decide (r4.e = 0) = false := decide_eq_false (by omega)
            have cC := withE (fun A' hb' => maybe_gives (A := A') (hw := hw) (ex := ex) (n := n) hb' hL.len r4 kCom) hb [atZ0, ⟨false, atX says p ts⟩]
            unfold maybeR at cC
            rw [isT_bad _ (of_decide_eq_false d4), if_neg Bool.false_ne_true] at cC
            repeat (first | refine tr_seq_k fun _ _ => ?_ | (refine tr_region ?_; simp only [go_sem, reduceCtorEq, Nat.reduceEqDiff, Nat.reduceLT, Nat.reduceLeDiff, Nat.reduceAdd, Nat.reduceMul, Nat.reduceSub, Nat.reduceBEq, ↓reduceIte, g, g', t, s_set, List.length_set, List.length_append, List.length_cons, List.length_nil, List.append_assoc, List.cons_append, List.nil_append, sa_get0, sa_get1, sa_set0, sa_set1, d1]) | refine k_of (by assumption) ?_)
            refine tr_cond rfl (fun ht => ?_) (fun hf => ?_)
            · repeat (first | refine tr_seq_k fun _ _ => ?_ | (refine tr_region ?_; simp only [go_sem, reduceCtorEq, Nat.reduceEqDiff, Nat.reduceLT, Nat.reduceLeDiff, Nat.reduceAdd, Nat.reduceMul, Nat.reduceSub, Nat.reduceBEq, ↓reduceIte, g, g', t, s_set, List.length_set, List.length_append, List.length_cons, List.length_nil, List.append_assoc, List.cons_append, List.nil_append, sa_get0, sa_get1, sa_set0, sa_set1, d1, d2, d3, px, gx]) | (refine call_givesW (cN2) ?_; (try dsimp only); (try simp only [go_sem, reduceCtorEq, Nat.reduceEqDiff, Nat.reduceLT, Nat.reduceLeDiff, Nat.reduceAdd, Nat.reduceMul, Nat.reduceSub, Nat.reduceBEq, ↓reduceIte, g, g', t, s_set, List.length_set, List.length_append, List.length_cons, List.length_nil, List.append_assoc, List.cons_append, List.nil_append, sa_get0, sa_get1, sa_set0, sa_set1, d1, d2, d3, px, gx])) | refine k_of (by assumption) ?_ | refine tr_block ?_ | (refine tr_skip ?_; try simp only [ex_seq, ex_block]))
              refine tr_cond rfl (fun ht => ?_) (fun hf => ?_)
              · repeat (first | refine tr_seq_k fun _ _ => ?_ | (refine tr_region ?_; simp only [go_sem, reduceCtorEq, Nat.reduceEqDiff, Nat.reduceLT, Nat.reduceLeDiff, Nat.reduceAdd, Nat.reduceMul, Nat.reduceSub, Nat.reduceBEq, ↓reduceIte, g, g', t, s_set, List.length_set, List.length_append, List.length_cons, List.length_nil, List.append_assoc, List.cons_append, List.nil_append, sa_get0, sa_get1, sa_set0, sa_set1, d4]) | (refine call_givesW (cF) ?_; (try dsimp only); (try simp only [go_sem, reduceCtorEq, Nat.reduceEqDiff, Nat.reduceLT, Nat.reduceLeDiff, Nat.reduceAdd, Nat.reduceMul, Nat.reduceSub, Nat.reduceBEq, ↓reduceIte, g, g', t, s_set, List.length_set, List.length_append, List.length_cons, List.length_nil, List.append_assoc, List.cons_append, List.nil_append, sa_get0, sa_get1, sa_set0, sa_set1, d4])) | refine k_of (by assumption) ?_)
                refine tr_cond rfl (fun ht => ?_) (fun hf => ?_)
                · cases ht
                · repeat (first | (refine tr_region ?_; simp only [go_sem, reduceCtorEq, Nat.reduceEqDiff, Nat.reduceLT, Nat.reduceLeDiff, Nat.reduceAdd, Nat.reduceMul, Nat.reduceSub, Nat.reduceBEq, ↓reduceIte, g, g', t, s_set, List.length_set, List.length_append, List.length_cons, List.length_nil, List.append_assoc, List.cons_append, List.nil_append, sa_get0, sa_get1, sa_set0, sa_set1]) | (refine call_givesW (cC) ?_; (try dsimp only); (try simp only [go_sem, reduceCtorEq, Nat.reduceEqDiff, Nat.reduceLT, Nat.reduceLeDiff, Nat.reduceAdd, Nat.reduceMul, Nat.reduceSub, Nat.reduceBEq, ↓reduceIte, g, g', t, s_set, List.length_set, List.length_append, List.length_cons, List.length_nil, List.append_assoc, List.cons_append, List.nil_append, sa_get0, sa_get1, sa_set0, sa_set1])) | refine k_of (by assumption) ?_ | (refine tr_skip ?_; try simp only [ex_seq, ex_block]))
                  exact hK (false, f, r4, ts) _ _ ⟨(fun h => by cases h), fun _ => hS⟩ ⟨⟨rfl, rfl, rfl, rfl, trivial⟩, Keep.refl _, by simp only [lowF, low, List.length_append, List.length_set, List.length_cons, List.length_nil, Nat.blt_eq, Bool.and_eq_true, and_true]; omega, by simp only [List.length_append, List.length_set, List.length_cons, List.length_nil]; exact low_ext hW (by omega) rfl rfl, by simp only [List.length_append, List.length_set]; exact Nat.le_refl _, Nat.le_refl _⟩ (by simp)
              · cases hf
            · cases hf
          · rw [if_neg hl4] at hS
            have d3 : decide ((ts.length : Int) = 4) = false := decide_eq_false (by omega)
            have cC := withE (fun A' hb' => maybe_gives (A := A') (hw := hw) (ex := ex) (n := n) hb' hL.len r3 kCom) hb [atZ0, ⟨false, atX says p (ts ++ [⟨pvariable s, s⟩])⟩]
            unfold maybeR at cC
            repeat (first | refine tr_seq_k fun _ _ => ?_ | (refine tr_region ?_; simp only [go_sem, reduceCtorEq, Nat.reduceEqDiff, Nat.reduceLT, Nat.reduceLeDiff, Nat.reduceAdd, Nat.reduceMul, Nat.reduceSub, Nat.reduceBEq, ↓reduceIte, g, g', t, s_set, List.length_set, List.length_append, List.length_cons, List.length_nil, List.append_assoc, List.cons_append, List.nil_append, sa_get0, sa_get1, sa_set0, sa_set1, d1]) | refine k_of (by assumption) ?_)
            refine tr_cond rfl (fun ht => ?_) (fun hf => ?_)
            · repeat (first | refine tr_seq_k fun _ _ => ?_ | (refine tr_region ?_; simp only [go_sem, reduceCtorEq, Nat.reduceEqDiff, Nat.reduceLT, Nat.reduceLeDiff, Nat.reduceAdd, Nat.reduceMul, Nat.reduceSub, Nat.reduceBEq, ↓reduceIte, g, g', t, s_set, List.length_set, List.length_append, List.length_cons, List.length_nil, List.append_assoc, List.cons_append, List.nil_append, sa_get0, sa_get1, sa_set0, sa_set1, d1, d2, d3, px, gx]) | (refine call_givesW (cN2) ?_; (try dsimp only); (try simp only [go_sem, reduceCtorEq, Nat.reduceEqDiff, Nat.reduceLT, Nat.reduceLeDiff, Nat.reduceAdd, Nat.reduceMul, Nat.reduceSub, Nat.reduceBEq, ↓reduceIte, g, g', t, s_set, List.length_set, List.length_append, List.length_cons, List.length_nil, List.append_assoc, List.cons_append, List.nil_append, sa_get0, sa_get1, sa_set0, sa_set1, d1, d2, d3, px, gx])) | refine k_of (by assumption) ?_ | refine tr_block ?_ | (refine tr_skip ?_; try simp only [ex_seq, ex_block]))
              refine tr_cond rfl (fun ht => ?_) (fun hf => ?_)
              · cases ht
              · repeat (first | refine tr_seq_k fun _ _ => ?_ | (refine tr_region ?_; simp only [go_sem, reduceCtorEq, Nat.reduceEqDiff, Nat.reduceLT, Nat.reduceLeDiff, Nat.reduceAdd, Nat.reduceMul, Nat.reduceSub, Nat.reduceBEq, ↓reduceIte, g, g', t, s_set, List.length_set, List.length_append, List.length_cons, List.length_nil, List.append_assoc, List.cons_append, List.nil_append, sa_get0, sa_get1, sa_set0, sa_set1, d2]) | refine k_of (by assumption) ?_ | (refine tr_skip ?_; try simp only [ex_seq, ex_block]))
                refine tr_cond rfl (fun ht => ?_) (fun hf => ?_)
                · rcases len_cases (ts := ts) (by omega) with rfl | ⟨a, rfl⟩ | ⟨a, c, rfl⟩ | ⟨a, c, d, rfl⟩
                  · rw [show atX says p [] = [.c (.v (.string says)), .c (.v (.string p)), .c (.v (.int .i64 0)), .c (.v (.bool noT.v)), .c (.v (.string noT.name)), .c (.v (.bool noT.v)), .c (.v (.string noT.name)), .c (.v (.bool noT.v)), .c (.v (.string noT.name)), .c (.v (.bool noT.v)), .c (.v (.string noT.name))] from rfl]
                    have w1 : IntKind.i64.wrap ((0 : Int) + 1) = 1 := by decide
                    have ixa : aIndexAddr Tryd.prog 40 (.ptr (A.length + 1) 3) (.c (.v (.int .i64 0))) = some (.ptr (A.length + 1) 3) := ixArr (A.length + 1) 3 (k := 0) (by decide)
                    repeat (first | refine tr_seq_k fun _ _ => ?_ | (refine tr_region ?_; simp only [go_sem, reduceCtorEq, Nat.reduceEqDiff, Nat.reduceLT, Nat.reduceLeDiff, Nat.reduceAdd, Nat.reduceMul, Nat.reduceSub, Nat.reduceBEq, ↓reduceIte, g, g', t, s_set, List.length_set, List.length_append, List.length_cons, List.length_nil, List.append_assoc, List.cons_append, List.nil_append, sa_get0, sa_get1, sa_set0, sa_set1, w1, ixa]) | (refine tr_draw (id := 12) follows 8 [3, 8] [0, 1, 2, 4, 6, 3, 5, 7, 8] (by kernel_rfl) ?_; simp only [go_sem, reduceCtorEq, Nat.reduceEqDiff, Nat.reduceLT, Nat.reduceLeDiff, Nat.reduceAdd, Nat.reduceMul, Nat.reduceSub, Nat.reduceBEq, ↓reduceIte, g, g', t, s_set, List.length_set, List.length_append, List.length_cons, List.length_nil, List.append_assoc, List.cons_append, List.nil_append, sa_get0, sa_get1, sa_set0, sa_set1, w1, ixa]) | (refine call_of (cV) ?_ ?_; (first | rfl | simp only [go_sem, reduceCtorEq, Nat.reduceEqDiff, Nat.reduceLT, Nat.reduceLeDiff, Nat.reduceAdd, Nat.reduceMul, Nat.reduceSub, Nat.reduceBEq, ↓reduceIte, g, g', t, s_set, List.length_set, List.length_append, List.length_cons, List.length_nil, List.append_assoc, List.cons_append, List.nil_append, sa_get0, sa_get1, sa_set0, sa_set1, w1, ixa, shut_col]); simp only [go_sem, reduceCtorEq, Nat.reduceEqDiff, Nat.reduceLT, Nat.reduceLeDiff, Nat.reduceAdd, Nat.reduceMul, Nat.reduceSub, Nat.reduceBEq, ↓reduceIte, g, g', t, s_set, List.length_set, List.length_append, List.length_cons, List.length_nil, List.append_assoc, List.cons_append, List.nil_append, sa_get0, sa_get1, sa_set0, sa_set1, w1, ixa]) | refine k_of (by assumption) ?_)
                    cases h5 : isT L r3 kCom with
                    | true =>
                      rw [h5, if_pos rfl] at cC
                      rw [h5, if_pos rfl] at hS
                      repeat ((refine call_givesW (cC) ?_; (try dsimp only); (try simp only [go_sem, reduceCtorEq, Nat.reduceEqDiff, Nat.reduceLT, Nat.reduceLeDiff, Nat.reduceAdd, Nat.reduceMul, Nat.reduceSub, Nat.reduceBEq, ↓reduceIte, g, g', t, s_set, List.length_set, List.length_append, List.length_cons, List.length_nil, List.append_assoc, List.cons_append, List.nil_append, sa_get0, sa_get1, sa_set0, sa_set1])))
                      exact hK (true, f, r3.adv, [(⟨pvariable s, s⟩ : Tm)]) _ _ ⟨fun _ => ⟨hS, by simp only [List.length_cons, List.length_nil] at hlen ⊢; omega, by simp⟩, (fun h => by cases h)⟩ ⟨⟨rfl, rfl, rfl, rfl, trivial⟩, Keep.refl _, by simp only [lowF, low, List.length_append, List.length_set, List.length_cons, List.length_nil, Nat.blt_eq, Bool.and_eq_true, and_true]; omega, by simp only [List.length_append, List.length_set, List.length_cons, List.length_nil]; exact low_ext hW (by omega) rfl rfl, by simp only [List.length_append, List.length_set]; exact Nat.le_refl _, Nat.le_refl _⟩ (by simp)
                    | false =>
                      rw [h5, if_neg Bool.false_ne_true] at cC
                      rw [h5, if_neg Bool.false_ne_true] at hS
                      repeat ((refine call_givesW (cC) ?_; (try dsimp only); (try simp only [go_sem, reduceCtorEq, Nat.reduceEqDiff, Nat.reduceLT, Nat.reduceLeDiff, Nat.reduceAdd, Nat.reduceMul, Nat.reduceSub, Nat.reduceBEq, ↓reduceIte, g, g', t, s_set, List.length_set, List.length_append, List.length_cons, List.length_nil, List.append_assoc, List.cons_append, List.nil_append, sa_get0, sa_get1, sa_set0, sa_set1])))
                      exact hK (false, f, r3, [(⟨pvariable s, s⟩ : Tm)]) _ _ ⟨(fun h => by cases h), fun _ => hS⟩ ⟨⟨rfl, rfl, rfl, rfl, trivial⟩, Keep.refl _, by simp only [lowF, low, List.length_append, List.length_set, List.length_cons, List.length_nil, Nat.blt_eq, Bool.and_eq_true, and_true]; omega, by simp only [List.length_append, List.length_set, List.length_cons, List.length_nil]; exact low_ext hW (by omega) rfl rfl, by simp only [List.length_append, List.length_set]; exact Nat.le_refl _, Nat.le_refl _⟩ (by simp)
                  · rw [show atX says p [a] = [.c (.v (.string says)), .c (.v (.string p)), .c (.v (.int .i64 1)), .c (.v (.bool a.v)), .c (.v (.string a.name)), .c (.v (.bool noT.v)), .c (.v (.string noT.name)), .c (.v (.bool noT.v)), .c (.v (.string noT.name)), .c (.v (.bool noT.v)), .c (.v (.string noT.name))] from rfl]
                    have w1 : IntKind.i64.wrap ((1 : Int) + 1) = 2 := by decide
                    have ixa : aIndexAddr Tryd.prog 40 (.ptr (A.length + 1) 3) (.c (.v (.int .i64 1))) = some (.ptr (A.length + 1) 5) := ixArr (A.length + 1) 3 (k := 1) (by decide)
                    repeat (first | refine tr_seq_k fun _ _ => ?_ | (refine tr_region ?_; simp only [go_sem, reduceCtorEq, Nat.reduceEqDiff, Nat.reduceLT, Nat.reduceLeDiff, Nat.reduceAdd, Nat.reduceMul, Nat.reduceSub, Nat.reduceBEq, ↓reduceIte, g, g', t, s_set, List.length_set, List.length_append, List.length_cons, List.length_nil, List.append_assoc, List.cons_append, List.nil_append, sa_get0, sa_get1, sa_set0, sa_set1, w1, ixa]) | (refine tr_draw (id := 12) follows 8 [3, 8] [0, 1, 2, 4, 6, 3, 5, 7, 8] (by kernel_rfl) ?_; simp only [go_sem, reduceCtorEq, Nat.reduceEqDiff, Nat.reduceLT, Nat.reduceLeDiff, Nat.reduceAdd, Nat.reduceMul, Nat.reduceSub, Nat.reduceBEq, ↓reduceIte, g, g', t, s_set, List.length_set, List.length_append, List.length_cons, List.length_nil, List.append_assoc, List.cons_append, List.nil_append, sa_get0, sa_get1, sa_set0, sa_set1, w1, ixa]) | (refine call_of (cV) ?_ ?_; (first | rfl | simp only [go_sem, reduceCtorEq, Nat.reduceEqDiff, Nat.reduceLT, Nat.reduceLeDiff, Nat.reduceAdd, Nat.reduceMul, Nat.reduceSub, Nat.reduceBEq, ↓reduceIte, g, g', t, s_set, List.length_set, List.length_append, List.length_cons, List.length_nil, List.append_assoc, List.cons_append, List.nil_append, sa_get0, sa_get1, sa_set0, sa_set1, w1, ixa, shut_col]); simp only [go_sem, reduceCtorEq, Nat.reduceEqDiff, Nat.reduceLT, Nat.reduceLeDiff, Nat.reduceAdd, Nat.reduceMul, Nat.reduceSub, Nat.reduceBEq, ↓reduceIte, g, g', t, s_set, List.length_set, List.length_append, List.length_cons, List.length_nil, List.append_assoc, List.cons_append, List.nil_append, sa_get0, sa_get1, sa_set0, sa_set1, w1, ixa]) | refine k_of (by assumption) ?_)
                    cases h5 : isT L r3 kCom with
                    | true =>
                      rw [h5, if_pos rfl] at cC
                      rw [h5, if_pos rfl] at hS
                      repeat ((refine call_givesW (cC) ?_; (try dsimp only); (try simp only [go_sem, reduceCtorEq, Nat.reduceEqDiff, Nat.reduceLT, Nat.reduceLeDiff, Nat.reduceAdd, Nat.reduceMul, Nat.reduceSub, Nat.reduceBEq, ↓reduceIte, g, g', t, s_set, List.length_set, List.length_append, List.length_cons, List.length_nil, List.append_assoc, List.cons_append, List.nil_append, sa_get0, sa_get1, sa_set0, sa_set1])))
                      exact hK (true, f, r3.adv, [a, (⟨pvariable s, s⟩ : Tm)]) _ _ ⟨fun _ => ⟨hS, by simp only [List.length_cons, List.length_nil] at hlen ⊢; omega, by simp⟩, (fun h => by cases h)⟩ ⟨⟨rfl, rfl, rfl, rfl, trivial⟩, Keep.refl _, by simp only [lowF, low, List.length_append, List.length_set, List.length_cons, List.length_nil, Nat.blt_eq, Bool.and_eq_true, and_true]; omega, by simp only [List.length_append, List.length_set, List.length_cons, List.length_nil]; exact low_ext hW (by omega) rfl rfl, by simp only [List.length_append, List.length_set]; exact Nat.le_refl _, Nat.le_refl _⟩ (by simp)
                    | false =>
                      rw [h5, if_neg Bool.false_ne_true] at cC
                      rw [h5, if_neg Bool.false_ne_true] at hS
                      repeat ((refine call_givesW (cC) ?_; (try dsimp only); (try simp only [go_sem, reduceCtorEq, Nat.reduceEqDiff, Nat.reduceLT, Nat.reduceLeDiff, Nat.reduceAdd, Nat.reduceMul, Nat.reduceSub, Nat.reduceBEq, ↓reduceIte, g, g', t, s_set, List.length_set, List.length_append, List.length_cons, List.length_nil, List.append_assoc, List.cons_append, List.nil_append, sa_get0, sa_get1, sa_set0, sa_set1])))
                      exact hK (false, f, r3, [a, (⟨pvariable s, s⟩ : Tm)]) _ _ ⟨(fun h => by cases h), fun _ => hS⟩ ⟨⟨rfl, rfl, rfl, rfl, trivial⟩, Keep.refl _, by simp only [lowF, low, List.length_append, List.length_set, List.length_cons, List.length_nil, Nat.blt_eq, Bool.and_eq_true, and_true]; omega, by simp only [List.length_append, List.length_set, List.length_cons, List.length_nil]; exact low_ext hW (by omega) rfl rfl, by simp only [List.length_append, List.length_set]; exact Nat.le_refl _, Nat.le_refl _⟩ (by simp)
                  · rw [show atX says p [a, c] = [.c (.v (.string says)), .c (.v (.string p)), .c (.v (.int .i64 2)), .c (.v (.bool a.v)), .c (.v (.string a.name)), .c (.v (.bool c.v)), .c (.v (.string c.name)), .c (.v (.bool noT.v)), .c (.v (.string noT.name)), .c (.v (.bool noT.v)), .c (.v (.string noT.name))] from rfl]
                    have w1 : IntKind.i64.wrap ((2 : Int) + 1) = 3 := by decide
                    have ixa : aIndexAddr Tryd.prog 40 (.ptr (A.length + 1) 3) (.c (.v (.int .i64 2))) = some (.ptr (A.length + 1) 7) := ixArr (A.length + 1) 3 (k := 2) (by decide)
                    repeat (first | refine tr_seq_k fun _ _ => ?_ | (refine tr_region ?_; simp only [go_sem, reduceCtorEq, Nat.reduceEqDiff, Nat.reduceLT, Nat.reduceLeDiff, Nat.reduceAdd, Nat.reduceMul, Nat.reduceSub, Nat.reduceBEq, ↓reduceIte, g, g', t, s_set, List.length_set, List.length_append, List.length_cons, List.length_nil, List.append_assoc, List.cons_append, List.nil_append, sa_get0, sa_get1, sa_set0, sa_set1, w1, ixa]) | (refine tr_draw (id := 12) follows 8 [3, 8] [0, 1, 2, 4, 6, 3, 5, 7, 8] (by kernel_rfl) ?_; simp only [go_sem, reduceCtorEq, Nat.reduceEqDiff, Nat.reduceLT, Nat.reduceLeDiff, Nat.reduceAdd, Nat.reduceMul, Nat.reduceSub, Nat.reduceBEq, ↓reduceIte, g, g', t, s_set, List.length_set, List.length_append, List.length_cons, List.length_nil, List.append_assoc, List.cons_append, List.nil_append, sa_get0, sa_get1, sa_set0, sa_set1, w1, ixa]) | (refine call_of (cV) ?_ ?_; (first | rfl | simp only [go_sem, reduceCtorEq, Nat.reduceEqDiff, Nat.reduceLT, Nat.reduceLeDiff, Nat.reduceAdd, Nat.reduceMul, Nat.reduceSub, Nat.reduceBEq, ↓reduceIte, g, g', t, s_set, List.length_set, List.length_append, List.length_cons, List.length_nil, List.append_assoc, List.cons_append, List.nil_append, sa_get0, sa_get1, sa_set0, sa_set1, w1, ixa, shut_col]); simp only [go_sem, reduceCtorEq, Nat.reduceEqDiff, Nat.reduceLT, Nat.reduceLeDiff, Nat.reduceAdd, Nat.reduceMul, Nat.reduceSub, Nat.reduceBEq, ↓reduceIte, g, g', t, s_set, List.length_set, List.length_append, List.length_cons, List.length_nil, List.append_assoc, List.cons_append, List.nil_append, sa_get0, sa_get1, sa_set0, sa_set1, w1, ixa]) | refine k_of (by assumption) ?_)
                    cases h5 : isT L r3 kCom with
                    | true =>
                      rw [h5, if_pos rfl] at cC
                      rw [h5, if_pos rfl] at hS
                      repeat ((refine call_givesW (cC) ?_; (try dsimp only); (try simp only [go_sem, reduceCtorEq, Nat.reduceEqDiff, Nat.reduceLT, Nat.reduceLeDiff, Nat.reduceAdd, Nat.reduceMul, Nat.reduceSub, Nat.reduceBEq, ↓reduceIte, g, g', t, s_set, List.length_set, List.length_append, List.length_cons, List.length_nil, List.append_assoc, List.cons_append, List.nil_append, sa_get0, sa_get1, sa_set0, sa_set1])))
                      exact hK (true, f, r3.adv, [a, c, (⟨pvariable s, s⟩ : Tm)]) _ _ ⟨fun _ => ⟨hS, by simp only [List.length_cons, List.length_nil] at hlen ⊢; omega, by simp⟩, (fun h => by cases h)⟩ ⟨⟨rfl, rfl, rfl, rfl, trivial⟩, Keep.refl _, by simp only [lowF, low, List.length_append, List.length_set, List.length_cons, List.length_nil, Nat.blt_eq, Bool.and_eq_true, and_true]; omega, by simp only [List.length_append, List.length_set, List.length_cons, List.length_nil]; exact low_ext hW (by omega) rfl rfl, by simp only [List.length_append, List.length_set]; exact Nat.le_refl _, Nat.le_refl _⟩ (by simp)
                    | false =>
                      rw [h5, if_neg Bool.false_ne_true] at cC
                      rw [h5, if_neg Bool.false_ne_true] at hS
                      repeat ((refine call_givesW (cC) ?_; (try dsimp only); (try simp only [go_sem, reduceCtorEq, Nat.reduceEqDiff, Nat.reduceLT, Nat.reduceLeDiff, Nat.reduceAdd, Nat.reduceMul, Nat.reduceSub, Nat.reduceBEq, ↓reduceIte, g, g', t, s_set, List.length_set, List.length_append, List.length_cons, List.length_nil, List.append_assoc, List.cons_append, List.nil_append, sa_get0, sa_get1, sa_set0, sa_set1])))
                      exact hK (false, f, r3, [a, c, (⟨pvariable s, s⟩ : Tm)]) _ _ ⟨(fun h => by cases h), fun _ => hS⟩ ⟨⟨rfl, rfl, rfl, rfl, trivial⟩, Keep.refl _, by simp only [lowF, low, List.length_append, List.length_set, List.length_cons, List.length_nil, Nat.blt_eq, Bool.and_eq_true, and_true]; omega, by simp only [List.length_append, List.length_set, List.length_cons, List.length_nil]; exact low_ext hW (by omega) rfl rfl, by simp only [List.length_append, List.length_set]; exact Nat.le_refl _, Nat.le_refl _⟩ (by simp)
                  · rw [show atX says p [a, c, d] = [.c (.v (.string says)), .c (.v (.string p)), .c (.v (.int .i64 3)), .c (.v (.bool a.v)), .c (.v (.string a.name)), .c (.v (.bool c.v)), .c (.v (.string c.name)), .c (.v (.bool d.v)), .c (.v (.string d.name)), .c (.v (.bool noT.v)), .c (.v (.string noT.name))] from rfl]
                    have w1 : IntKind.i64.wrap ((3 : Int) + 1) = 4 := by decide
                    have ixa : aIndexAddr Tryd.prog 40 (.ptr (A.length + 1) 3) (.c (.v (.int .i64 3))) = some (.ptr (A.length + 1) 9) := ixArr (A.length + 1) 3 (k := 3) (by decide)
                    repeat (first | refine tr_seq_k fun _ _ => ?_ | (refine tr_region ?_; simp only [go_sem, reduceCtorEq, Nat.reduceEqDiff, Nat.reduceLT, Nat.reduceLeDiff, Nat.reduceAdd, Nat.reduceMul, Nat.reduceSub, Nat.reduceBEq, ↓reduceIte, g, g', t, s_set, List.length_set, List.length_append, List.length_cons, List.length_nil, List.append_assoc, List.cons_append, List.nil_append, sa_get0, sa_get1, sa_set0, sa_set1, w1, ixa]) | (refine tr_draw (id := 12) follows 8 [3, 8] [0, 1, 2, 4, 6, 3, 5, 7, 8] (by kernel_rfl) ?_; simp only [go_sem, reduceCtorEq, Nat.reduceEqDiff, Nat.reduceLT, Nat.reduceLeDiff, Nat.reduceAdd, Nat.reduceMul, Nat.reduceSub, Nat.reduceBEq, ↓reduceIte, g, g', t, s_set, List.length_set, List.length_append, List.length_cons, List.length_nil, List.append_assoc, List.cons_append, List.nil_append, sa_get0, sa_get1, sa_set0, sa_set1, w1, ixa]) | (refine call_of (cV) ?_ ?_; (first | rfl | simp only [go_sem, reduceCtorEq, Nat.reduceEqDiff, Nat.reduceLT, Nat.reduceLeDiff, Nat.reduceAdd, Nat.reduceMul, Nat.reduceSub, Nat.reduceBEq, ↓reduceIte, g, g', t, s_set, List.length_set, List.length_append, List.length_cons, List.length_nil, List.append_assoc, List.cons_append, List.nil_append, sa_get0, sa_get1, sa_set0, sa_set1, w1, ixa, shut_col]); simp only [go_sem, reduceCtorEq, Nat.reduceEqDiff, Nat.reduceLT, Nat.reduceLeDiff, Nat.reduceAdd, Nat.reduceMul, Nat.reduceSub, Nat.reduceBEq, ↓reduceIte, g, g', t, s_set, List.length_set, List.length_append, List.length_cons, List.length_nil, List.append_assoc, List.cons_append, List.nil_append, sa_get0, sa_get1, sa_set0, sa_set1, w1, ixa]) | refine k_of (by assumption) ?_)
                    cases h5 : isT L r3 kCom with
                    | true =>
                      rw [h5, if_pos rfl] at cC
                      rw [h5, if_pos rfl] at hS
                      repeat ((refine call_givesW (cC) ?_; (try dsimp only); (try simp only [go_sem, reduceCtorEq, Nat.reduceEqDiff, Nat.reduceLT, Nat.reduceLeDiff, Nat.reduceAdd, Nat.reduceMul, Nat.reduceSub, Nat.reduceBEq, ↓reduceIte, g, g', t, s_set, List.length_set, List.length_append, List.length_cons, List.length_nil, List.append_assoc, List.cons_append, List.nil_append, sa_get0, sa_get1, sa_set0, sa_set1])))
                      exact hK (true, f, r3.adv, [a, c, d, (⟨pvariable s, s⟩ : Tm)]) _ _ ⟨fun _ => ⟨hS, by simp only [List.length_cons, List.length_nil] at hlen ⊢; omega, by simp⟩, (fun h => by cases h)⟩ ⟨⟨rfl, rfl, rfl, rfl, trivial⟩, Keep.refl _, by simp only [lowF, low, List.length_append, List.length_set, List.length_cons, List.length_nil, Nat.blt_eq, Bool.and_eq_true, and_true]; omega, by simp only [List.length_append, List.length_set, List.length_cons, List.length_nil]; exact low_ext hW (by omega) rfl rfl, by simp only [List.length_append, List.length_set]; exact Nat.le_refl _, Nat.le_refl _⟩ (by simp)
                    | false =>
                      rw [h5, if_neg Bool.false_ne_true] at cC
                      rw [h5, if_neg Bool.false_ne_true] at hS
                      repeat ((refine call_givesW (cC) ?_; (try dsimp only); (try simp only [go_sem, reduceCtorEq, Nat.reduceEqDiff, Nat.reduceLT, Nat.reduceLeDiff, Nat.reduceAdd, Nat.reduceMul, Nat.reduceSub, Nat.reduceBEq, ↓reduceIte, g, g', t, s_set, List.length_set, List.length_append, List.length_cons, List.length_nil, List.append_assoc, List.cons_append, List.nil_append, sa_get0, sa_get1, sa_set0, sa_set1])))
                      exact hK (false, f, r3, [a, c, d, (⟨pvariable s, s⟩ : Tm)]) _ _ ⟨(fun h => by cases h), fun _ => hS⟩ ⟨⟨rfl, rfl, rfl, rfl, trivial⟩, Keep.refl _, by simp only [lowF, low, List.length_append, List.length_set, List.length_cons, List.length_nil, Nat.blt_eq, Bool.and_eq_true, and_true]; omega, by simp only [List.length_append, List.length_set, List.length_cons, List.length_nil]; exact low_ext hW (by omega) rfl rfl, by simp only [List.length_append, List.length_set]; exact Nat.le_refl _, Nat.le_refl _⟩ (by simp)
                · cases hf
            · cases hf
end Go.Proofs.YtaeehadibckcjaaDoor
namespace Go.Proofs.YtaeehadibckcjaaDoor
open Go.RowKit Go.Vs Go.Vs.Ab
set_option maxRecDepth 100000
set_option maxHeartbeats 4000000
variable {A : List Blk} {hw : List Hw} {b : Nat} {ex : Bool} {L : List Tk} {n : Int}
theorem said_gives (hb : b < A.length) (hL : TkOk L) (r : Rs) (says : ByteArray) : GivesW Tryd.prog 63 [.ptr b 0, sA says] ⟨A.set b (rdB ex L n r), hw⟩ (atA (saidF L n r says).2) ⟨A.set b (rdB ex L n (saidF L n r says).1), hw⟩ := by
  obtain ⟨y, z, h⟩ := said_raw (hw := hw) (ex := ex) (n := n) hb hL r says
  refine h.trim ⟨⟨[y, z], rfl⟩, ⟨[], (List.append_nil _).symm⟩⟩ (fun hl => ?_) (by simp) (Nat.le_refl _) (cut_shut rfl)
  simp only [List.length_set] at hl ⊢
  exact low_re hl rfl
theorem atom_raw (hb : b < A.length) (hL : TkOk L) (r : Rs) : ∃ y : Blk, GivesW Tryd.prog 76 [.ptr b 0] ⟨A.set b (rdB ex L n r), hw⟩ (atA (atomF L n r).2) ⟨A.set b (rdB ex L n (atomF L n r).1) ++ [y], hw⟩ := by
  have c1 := withE (fun A' hb' => next_gives (A := A') (hw := hw) (ex := ex) (n := n) hb' hL r 0 (by omega)) hb [atZ0]
  have c2 := withE (fun A' hb' => must_gives (A := A') (hw := hw) (ex := ex) (n := n) hb' hL.len (nextR L n r 0) kSays) hb [atZ0]
  have c3 := withE (fun A' hb' => said_gives (A := A') (hw := hw) (ex := ex) (n := n) hb' hL (mustT L n (nextR L n r 0) kSays) (nextS L r 0)) hb [atZ0]
  unfold atomF
  generalize saidF L n (mustT L n (nextR L n r 0) kSays) (nextS L r 0) = q at *
  obtain ⟨r3, a⟩ := q
  dsimp only at *
  refine ⟨⟨false, ([.c (.v (.string a.says)), .c (.v (.string a.pred)), .c (.v (.int .i64 a.n)), .c (.v (.bool a.a0.v)), .c (.v (.string a.a0.name)), .c (.v (.bool a.a1.v)), .c (.v (.string a.a1.name)), .c (.v (.bool a.a2.v)), .c (.v (.string a.a2.name)), .c (.v (.bool a.a3.v)), .c (.v (.string a.a3.name))] : List AV)⟩, ?_⟩
  refine givesW_of' Tryd.func76 rfl (by kernel_rfl) Tryd.ntmps76 rfl rfl fun Q hQ => ?_
  repeat (first | refine tr_seq_k fun _ _ => ?_ | (refine tr_region ?_; simp only [go_sem, reduceCtorEq, Nat.reduceEqDiff, Nat.reduceLT, Nat.reduceLeDiff, Nat.reduceAdd, Nat.reduceMul, Nat.reduceSub, Nat.reduceBEq, ↓reduceIte, s_set, List.length_set, List.length_append, List.length_cons, List.length_nil, List.append_assoc, List.cons_append, List.nil_append, sa_get0, sa_get1, sa_set0, sa_set1]) | (refine call_givesW (c1) ?_; (try dsimp only); (try simp only [go_sem, reduceCtorEq, Nat.reduceEqDiff, Nat.reduceLT, Nat.reduceLeDiff, Nat.reduceAdd, Nat.reduceMul, Nat.reduceSub, Nat.reduceBEq, ↓reduceIte, s_set, List.length_set, List.length_append, List.length_cons, List.length_nil, List.append_assoc, List.cons_append, List.nil_append, sa_get0, sa_get1, sa_set0, sa_set1])) | (refine call_givesW (c2) ?_; (try dsimp only); (try simp only [go_sem, reduceCtorEq, Nat.reduceEqDiff, Nat.reduceLT, Nat.reduceLeDiff, Nat.reduceAdd, Nat.reduceMul, Nat.reduceSub, Nat.reduceBEq, ↓reduceIte, s_set, List.length_set, List.length_append, List.length_cons, List.length_nil, List.append_assoc, List.cons_append, List.nil_append, sa_get0, sa_get1, sa_set0, sa_set1])) | (refine call_givesW (c3) ?_; (try dsimp only); (try simp only [go_sem, reduceCtorEq, Nat.reduceEqDiff, Nat.reduceLT, Nat.reduceLeDiff, Nat.reduceAdd, Nat.reduceMul, Nat.reduceSub, Nat.reduceBEq, ↓reduceIte, s_set, List.length_set, List.length_append, List.length_cons, List.length_nil, List.append_assoc, List.cons_append, List.nil_append, sa_get0, sa_get1, sa_set0, sa_set1])) | refine k_of (by assumption) ?_ | (refine tr_ret ?_; try simp only [ex_seq_ret, ex_block_ret]))
  refine (hQ _ _ [.agg [.v (.string a.says), .v (.string a.pred), .v (.int .i64 a.n), .v (.bool a.a0.v), .v (.string a.a0.name), .v (.bool a.a1.v), .v (.string a.a1.name), .v (.bool a.a2.v), .v (.string a.a2.name), .v (.bool a.a3.v), .v (.string a.a3.name)]] ?_ rfl rfl).2 <;> simp only [go_sem, reduceCtorEq, Nat.reduceEqDiff, Nat.reduceLT, Nat.reduceLeDiff, Nat.reduceAdd, Nat.reduceMul, Nat.reduceSub, Nat.reduceBEq, ↓reduceIte, Tryd.f76, s_set, List.length_set, List.length_append, List.length_cons, List.length_nil, List.append_assoc, List.cons_append, List.nil_append, sa_get0, sa_get1, sa_set0, sa_set1]
theorem atom_gives (hb : b < A.length) (hL : TkOk L) (r : Rs) : GivesW Tryd.prog 76 [.ptr b 0] ⟨A.set b (rdB ex L n r), hw⟩ (atA (atomF L n r).2) ⟨A.set b (rdB ex L n (atomF L n r).1), hw⟩ := by
  obtain ⟨y, h⟩ := atom_raw (hw := hw) (ex := ex) (n := n) hb hL r
  refine h.trim ⟨⟨[y], rfl⟩, ⟨[], (List.append_nil _).symm⟩⟩ (fun hl => ?_) (by simp) (Nat.le_refl _) (cut_shut rfl)
  simp only [List.length_set] at hl ⊢
  exact low_re hl rfl
/-! ### bodies -/
theorem bodyL_succ (L : List Tk) (n : Int) (f : Nat) (r : Rs) (out : List Atm) : bodyL L n (f + 1) r out =
    if r.e = 0 then
      if isT L (atomF L n r).1 kCom then bodyL L n f (atomF L n r).1.adv (out ++ [(atomF L n r).2])
      else ((atomF L n r).1, out ++ [(atomF L n r).2])
    else (r, out) := rfl
theorem low_colW {T : Type} (enc : T → List CV) (e : TypeId) (size : Nat) (l : List T) (hw : List Hw) (i : Nat) : low i (hw ++ colH e size l).length (colA enc hw.length l) = true := by
  cases l with
  | nil => rfl
  | cons x l => simp only [colA, colH, low, List.length_append, List.length_singleton, Nat.blt_eq]; omega
theorem appAw (hp : List Blk) (hw : List Hw) (l : List Atm) (a : Atm) (hl : l.length ≤ 10000000) : aAppend Tryd.prog ⟨hp, hw ++ colH 42 11 l⟩ 43 (colA atC hw.length l) (.c (.sl true 1 [.v (.string a.says), .v (.string a.pred), .v (.int .i64 a.n), .v (.bool a.a0.v), .v (.string a.a0.name), .v (.bool a.a1.v), .v (.string a.a1.name), .v (.bool a.a2.v), .v (.string a.a2.name), .v (.bool a.a3.v), .v (.string a.a3.name)])) = some (colA atC hw.length (l ++ [a]), ⟨hp, hw ++ colH 42 11 (l ++ [a])⟩) :=
  app_col (P := Tryd.prog) atC (size := 11) (fun _ => rfl) Tryd.underlying43 info_a (hp := hp) (l := l) (x := a) (ex := true) (Nat.le_trans (show _ ≤ 10000001 by omega) (by decide)) (by omega)
theorem body_raw (hb : b < A.length) (hL : TkOk L) (r : Rs) (hr : r.i ≤ L.length) : GivesW Tryd.prog 64 [.ptr b 0] ⟨A.set b (rdB ex L n r), hw⟩ (colA atC hw.length (bodyF L n r).2) ⟨A.set b (rdB ex L n (bodyF L n r).1), hw ++ colH 42 11 (bodyF L n r).2⟩ := by
  have g := fun x => s_get (A := A) hb x
  have cM := maybe_gives (hw := hw) (ex := ex) (n := n) hb hL.len r kIf
  have hlen := hL.len
  unfold bodyF
  unfold maybeR at cM
  cases h1 : isT L r kIf with
  | false =>
    rw [h1, if_neg Bool.false_ne_true] at cM
    rw [if_neg Bool.false_ne_true]
    refine givesW_of' Tryd.func64 rfl (by kernel_rfl) Tryd.ntmps64 rfl rfl fun Q hQ => ?_
    repeat (first | refine tr_seq_k fun _ _ => ?_ | (refine tr_region ?_; simp only [go_sem, reduceCtorEq, Nat.reduceEqDiff, Nat.reduceLT, Nat.reduceLeDiff, Nat.reduceAdd, Nat.reduceMul, Nat.reduceSub, Nat.reduceBEq, ↓reduceIte]) | (refine call_givesW (cM) ?_; (try dsimp only); (try simp only [go_sem, reduceCtorEq, Nat.reduceEqDiff, Nat.reduceLT, Nat.reduceLeDiff, Nat.reduceAdd, Nat.reduceMul, Nat.reduceSub, Nat.reduceBEq, ↓reduceIte])) | refine k_of (by assumption) ?_)
    refine tr_cond rfl (fun ht => ?_) (fun hf => ?_)
    · repeat (first | refine tr_seq_k fun _ _ => ?_ | (refine tr_region ?_; simp only [go_sem, reduceCtorEq, Nat.reduceEqDiff, Nat.reduceLT, Nat.reduceLeDiff, Nat.reduceAdd, Nat.reduceMul, Nat.reduceSub, Nat.reduceBEq, ↓reduceIte]) | refine k_of (by assumption) ?_ | (refine tr_ret ?_; try simp only [ex_seq_ret, ex_block_ret]))
      refine (hQ _ _ [.c (.sl true 0 [])] ?_ rfl (by simp [colH])).2 <;> simp only [go_sem, reduceCtorEq, Nat.reduceEqDiff, Nat.reduceLT, Nat.reduceLeDiff, Nat.reduceAdd, Nat.reduceMul, Nat.reduceSub, Nat.reduceBEq, ↓reduceIte, Tryd.f64]
    · cases hf
  | true =>
    have hlt := (isT_lt h1).2
    rw [h1, if_pos rfl] at cM
    rw [if_pos rfl]
    obtain ⟨T, hT⟩ : ∃ T, T = bodyL L n (L.length + 1) r.adv [] := ⟨_, rfl⟩
    rw [← hT]
    refine givesW_of' Tryd.func64 rfl (by kernel_rfl) Tryd.ntmps64 rfl rfl fun Q hQ => ?_
    refine tr_low fun hW => ?_
    rw [List.length_set] at hW
    have hWk : ∀ (l : List Atm) (x : Rs), lowB A.length (hw ++ colH 42 11 l).length (A.set b (rdB ex L n x)) = true := fun l x => low_re (lowB_up (Nat.le_refl _) (by rw [List.length_append]; exact Nat.le_add_right _ _) hW) rfl
    repeat (first | refine tr_seq_k fun _ _ => ?_ | (refine tr_region ?_; simp only [go_sem, reduceCtorEq, Nat.reduceEqDiff, Nat.reduceLT, Nat.reduceLeDiff, Nat.reduceAdd, Nat.reduceMul, Nat.reduceSub, Nat.reduceBEq, ↓reduceIte]) | (refine call_givesW (cM) ?_; (try dsimp only); (try simp only [go_sem, reduceCtorEq, Nat.reduceEqDiff, Nat.reduceLT, Nat.reduceLeDiff, Nat.reduceAdd, Nat.reduceMul, Nat.reduceSub, Nat.reduceBEq, ↓reduceIte])) | refine k_of (by assumption) ?_)
    refine tr_cond rfl (fun ht => ?_) (fun hf => ?_)
    · cases ht
    repeat (first | refine tr_seq_k fun _ _ => ?_ | (refine tr_region ?_; simp only [go_sem, reduceCtorEq, Nat.reduceEqDiff, Nat.reduceLT, Nat.reduceLeDiff, Nat.reduceAdd, Nat.reduceMul, Nat.reduceSub, Nat.reduceBEq, ↓reduceIte]) | refine k_of (by assumption) ?_ | refine tr_block ?_ | (refine tr_skip ?_; try simp only [ex_seq, ex_block]))
    refine tr_loop_k (σ := Bool × Nat × Rs × List Atm) (fun q => [(0, .ptr b 0), (3, colA atC hw.length q.2.2.2), (4, bA q.1)]) (fun q => ⟨A.set b (rdB ex L n q.2.2.1), hw ++ colH 42 11 q.2.2.2⟩)
      (fun q => (q.1 = true → bodyL L n q.2.1 q.2.2.1 q.2.2.2 = T ∧ L.length < q.2.1 + q.2.2.1.i ∧ q.2.2.1.i ≤ L.length ∧ q.2.2.2.length + q.2.1 ≤ L.length + 1) ∧ (q.1 = false → (q.2.2.1, q.2.2.2) = T)) (fun q => if q.1 then q.2.1 + 1 else 0) (true, L.length + 1, r.adv, []) ⟨fun _ => ⟨hT.symm, by dsimp only; omega, hlt, by dsimp only [List.length_nil]; omega⟩, (fun h => by cases h)⟩ ⟨rfl, rfl, rfl, trivial⟩ (by simp [colH]) ?_
    rintro ⟨more, f, r2, out⟩ ⟨hI1, hI2⟩ K hK
    dsimp only at hI1 hI2 ⊢
    cases more with
    | false =>
      obtain rfl := hI2 rfl
      repeat (first | refine tr_seq_k fun _ _ => ?_ | (refine tr_region ?_; simp only [go_sem, reduceCtorEq, Nat.reduceEqDiff, Nat.reduceLT, Nat.reduceLeDiff, Nat.reduceAdd, Nat.reduceMul, Nat.reduceSub, Nat.reduceBEq, ↓reduceIte, g]) | refine k_of (by assumption) ?_)
      refine tr_cond rfl (fun ht => ?_) (fun hf => ?_)
      · cases ht
      · repeat (first | refine tr_seq_k fun _ _ => ?_ | (refine tr_region ?_; simp only [go_sem, reduceCtorEq, Nat.reduceEqDiff, Nat.reduceLT, Nat.reduceLeDiff, Nat.reduceAdd, Nat.reduceMul, Nat.reduceSub, Nat.reduceBEq, ↓reduceIte]) | refine k_of (by assumption) ?_ | (refine tr_exit ?_; try simp only [ex_seq_exit, ex_block_exit, Nat.reduceEqDiff, if_true, if_false, ex_seq, ex_block, reduceCtorEq, ↓reduceIte]) | (refine tr_ret ?_; try simp only [ex_seq_ret, ex_block_ret]))
        refine (hQ _ _ [colA atC hw.length out] ?_ rfl rfl).2 <;> simp only [go_sem, reduceCtorEq, Nat.reduceEqDiff, Nat.reduceLT, Nat.reduceLeDiff, Nat.reduceAdd, Nat.reduceMul, Nat.reduceSub, Nat.reduceBEq, ↓reduceIte, Tryd.f64]
    | true =>
      obtain ⟨hS, hf1, hi1, ho1⟩ := hI1 rfl
      obtain ⟨f, rfl⟩ : ∃ f', f = f' + 1 := ⟨f - 1, by omega⟩
      rw [bodyL_succ] at hS
      cases d1 : decide (r2.e = 0) with
      | false =>
        rw [if_neg (of_decide_eq_false d1)] at hS
        obtain rfl := hS
        repeat (first | refine tr_seq_k fun _ _ => ?_ | (refine tr_region ?_; simp only [go_sem, reduceCtorEq, Nat.reduceEqDiff, Nat.reduceLT, Nat.reduceLeDiff, Nat.reduceAdd, Nat.reduceMul, Nat.reduceSub, Nat.reduceBEq, ↓reduceIte, g, d1]) | refine k_of (by assumption) ?_)
        refine tr_cond rfl (fun ht => ?_) (fun hf => ?_)
        · cases ht
        · repeat (first | refine tr_seq_k fun _ _ => ?_ | (refine tr_region ?_; simp only [go_sem, reduceCtorEq, Nat.reduceEqDiff, Nat.reduceLT, Nat.reduceLeDiff, Nat.reduceAdd, Nat.reduceMul, Nat.reduceSub, Nat.reduceBEq, ↓reduceIte]) | refine k_of (by assumption) ?_ | (refine tr_exit ?_; try simp only [ex_seq_exit, ex_block_exit, Nat.reduceEqDiff, if_true, if_false, ex_seq, ex_block, reduceCtorEq, ↓reduceIte]) | (refine tr_ret ?_; try simp only [ex_seq_ret, ex_block_ret]))
          refine (hQ _ _ [colA atC hw.length out] ?_ rfl rfl).2 <;> simp only [go_sem, reduceCtorEq, Nat.reduceEqDiff, Nat.reduceLT, Nat.reduceLeDiff, Nat.reduceAdd, Nat.reduceMul, Nat.reduceSub, Nat.reduceBEq, ↓reduceIte, Tryd.f64]
      | true =>
        rw [if_pos (of_decide_eq_true d1)] at hS
        have cA := atom_gives (hw := hw ++ colH 42 11 out) (ex := ex) (n := n) hb hL r2
        have hai := atom_i (L := L) (n := n) (r := r2)
        generalize atomF L n r2 = q at *
        obtain ⟨r3, a⟩ := q
        dsimp only at *
        have ap := appAw (A.set b (rdB ex L n r3)) hw out a (by omega)
        have b1 := build1A a
        have cC := maybe_gives (hw := hw ++ colH 42 11 (out ++ [a])) (ex := ex) (n := n) hb hL.len r3 kCom
        unfold maybeR at cC
        cases h5 : isT L r3 kCom with
        | true =>
          have hlt3 := (isT_lt h5).2
          rw [h5, if_pos rfl] at cC
          rw [h5, if_pos rfl] at hS
          repeat (first | refine tr_seq_k fun _ _ => ?_ | (refine tr_region ?_; simp only [go_sem, reduceCtorEq, Nat.reduceEqDiff, Nat.reduceLT, Nat.reduceLeDiff, Nat.reduceAdd, Nat.reduceMul, Nat.reduceSub, Nat.reduceBEq, ↓reduceIte, g, d1]) | refine k_of (by assumption) ?_)
          refine tr_cond rfl (fun ht => ?_) (fun hf => ?_)
          · repeat (first | refine tr_seq_k fun _ _ => ?_ | (refine tr_region ?_; simp only [go_sem, reduceCtorEq, Nat.reduceEqDiff, Nat.reduceLT, Nat.reduceLeDiff, Nat.reduceAdd, Nat.reduceMul, Nat.reduceSub, Nat.reduceBEq, ↓reduceIte, g, b1, one_max, ap]) | (refine call_givesW (cA) ?_; (try dsimp only); (try simp only [go_sem, reduceCtorEq, Nat.reduceEqDiff, Nat.reduceLT, Nat.reduceLeDiff, Nat.reduceAdd, Nat.reduceMul, Nat.reduceSub, Nat.reduceBEq, ↓reduceIte, g, b1, one_max, ap])) | (refine call_givesW (cC) ?_; (try dsimp only); (try simp only [go_sem, reduceCtorEq, Nat.reduceEqDiff, Nat.reduceLT, Nat.reduceLeDiff, Nat.reduceAdd, Nat.reduceMul, Nat.reduceSub, Nat.reduceBEq, ↓reduceIte, g, b1, one_max, ap])) | refine k_of (by assumption) ?_ | refine tr_block ?_ | (refine tr_skip ?_; try simp only [ex_seq, ex_block]))
            exact hK (true, f, r3.adv, out ++ [a]) _ _ ⟨fun _ => ⟨hS, by show L.length < f + (r3.i + 1); omega, hlt3, by simp only [List.length_append, List.length_cons, List.length_nil]; omega⟩, (fun h => by cases h)⟩ ⟨⟨rfl, rfl, rfl, trivial⟩, Keep.refl _, by simp only [lowF, low_colW, low_ptr, low_c, List.length_set, Nat.blt_eq, Bool.and_eq_true, and_true]; omega, by simp only [List.length_set]; exact hWk _ _, by simp only [List.length_set]; exact Nat.le_refl _, by simp only [List.length_append, colH, List.length_nil]; omega⟩ (by simp)
          · cases hf
        | false =>
          rw [h5, if_neg Bool.false_ne_true] at cC
          rw [h5, if_neg Bool.false_ne_true] at hS
          repeat (first | refine tr_seq_k fun _ _ => ?_ | (refine tr_region ?_; simp only [go_sem, reduceCtorEq, Nat.reduceEqDiff, Nat.reduceLT, Nat.reduceLeDiff, Nat.reduceAdd, Nat.reduceMul, Nat.reduceSub, Nat.reduceBEq, ↓reduceIte, g, d1]) | refine k_of (by assumption) ?_)
          refine tr_cond rfl (fun ht => ?_) (fun hf => ?_)
          · repeat (first | refine tr_seq_k fun _ _ => ?_ | (refine tr_region ?_; simp only [go_sem, reduceCtorEq, Nat.reduceEqDiff, Nat.reduceLT, Nat.reduceLeDiff, Nat.reduceAdd, Nat.reduceMul, Nat.reduceSub, Nat.reduceBEq, ↓reduceIte, g, b1, one_max, ap]) | (refine call_givesW (cA) ?_; (try dsimp only); (try simp only [go_sem, reduceCtorEq, Nat.reduceEqDiff, Nat.reduceLT, Nat.reduceLeDiff, Nat.reduceAdd, Nat.reduceMul, Nat.reduceSub, Nat.reduceBEq, ↓reduceIte, g, b1, one_max, ap])) | (refine call_givesW (cC) ?_; (try dsimp only); (try simp only [go_sem, reduceCtorEq, Nat.reduceEqDiff, Nat.reduceLT, Nat.reduceLeDiff, Nat.reduceAdd, Nat.reduceMul, Nat.reduceSub, Nat.reduceBEq, ↓reduceIte, g, b1, one_max, ap])) | refine k_of (by assumption) ?_ | refine tr_block ?_ | (refine tr_skip ?_; try simp only [ex_seq, ex_block]))
            exact hK (false, f, r3, out ++ [a]) _ _ ⟨(fun h => by cases h), fun _ => hS⟩ ⟨⟨rfl, rfl, rfl, trivial⟩, Keep.refl _, by simp only [lowF, low_colW, low_ptr, low_c, List.length_set, Nat.blt_eq, Bool.and_eq_true, and_true]; omega, by simp only [List.length_set]; exact hWk _ _, by simp only [List.length_set]; exact Nat.le_refl _, by simp only [List.length_append, colH, List.length_nil]; omega⟩ (by simp)
          · cases hf
theorem body_gives (hb : b < A.length) (hL : TkOk L) (r : Rs) (hr : r.i ≤ L.length) : GivesW Tryd.prog 64 [.ptr b 0] ⟨A.set b (rdB ex L n r), hw⟩ (slT (bodyF L n r).2.isEmpty (bodyF L n r).2) ⟨A.set b (rdB ex L n (bodyF L n r).1), hw⟩ := by
  have h := body_raw (hw := hw) (ex := ex) (n := n) hb hL r hr
  refine h.trim ⟨⟨[], (List.append_nil _).symm⟩, ⟨_, rfl⟩⟩ (fun hl => ?_) (by simp) (Nat.le_refl _) (cut_shut (shut_col _ _ _))
  simp only [List.length_set] at hl ⊢
  exact low_re hl rfl
end Go.Proofs.YtaeehadibckcjaaDoor
namespace Go.Vs.Ab
open Go.RowKit
variable {P : Program} {X : Mem} {W0 w w' : World} {m : Mm}
inductive OT where
  | fin
  | stop
  | one (i : Nat) (t : OT)
  | br (i : Nat) (t more : OT)
def OT.heads : OT → List Nat
  | .br i _ more => i :: more.heads
  | _ => []
def chkT (md : Region.Mode) (ops : Array Oper) : OT → Bool → Nat → Array Bool → Bool
  | .fin, false, 0, listed => (Region.ready md ops listed).isEmpty
  | .one i t, false, n + 1, listed => (Region.ready md ops listed).contains i && Region.free md ops listed i && chkT md ops t false n (listed.setIfInBounds i true)
  | .br i t more, false, n + 1, listed => (Region.ready md ops listed == i :: more.heads) && (chkT md ops t false n (listed.setIfInBounds i true) && chkT md ops more true (n + 1) listed)
  | .br i t more, true, n + 1, listed => chkT md ops t false n (listed.setIfInBounds i true) && chkT md ops more true (n + 1) listed
  | .stop, true, _, _ => true
  | _, _, _, _ => false
def treeB (l : List Oper) (t : OT) : Bool := Region.noSelect l.toArray && chkT .any l.toArray t false l.length (Array.replicate l.length false)
end Go.Vs.Ab
namespace Go.Vs.Ab
open Go.RowKit
variable {P : Program} {X : Mem} {W0 w w' : World} {m : Mm} {nt : Nat}
/-! ### an operation reads its operands' slots alone -/
/-! ### whatever the order -/
def isApp : Op → Bool
  | .call c => match c.callee with
    | .builtin .append => true
    | _ => false
  | _ => false
def AppE (nt : Nat) (fr : Fr) (m : Mm) (dst : Option Tmp) (K : Fr → Prop) : Option Ev → Prop
  | some (.loud (.own _ n cs) m1) => (m1.hp = m.hp ∧ m1.hw.take m.hw.length = m.hw) ∧ PutW nt fr dst (.c (.sl false n cs)) K
  | _ => False
def AppW (P : Program) (nt : Nat) (ops : Array Oper) (o : Oper) (fr : Fr) (m : Mm) (b : Option Bool) (K : Fr → Prop) : Prop :=
  match b with
  | none => False
  | some false => PutW nt fr o.dst (.tup []) K
  | some true => AppE nt fr m o.dst K (evOp P fr m o)
theorem appW_true {ops : Array Oper} {o : Oper} {fr : Fr} {K : Fr → Prop} : AppW P nt ops o fr m (some true) K = AppE nt fr m o.dst K (evOp P fr m o) := rfl
theorem appW_false {ops : Array Oper} {o : Oper} {fr : Fr} {K : Fr → Prop} : AppW P nt ops o fr m (some false) K = PutW nt fr o.dst (.tup []) K := rfl
theorem appE_own {fr : Fr} {dst : Option Tmp} {K : Fr → Prop} {k n : Nat} {cs : List CV} {m1 : Mm} : AppE nt fr m dst K (some (.loud (.own k n cs) m1)) = ((m1.hp = m.hp ∧ m1.hw.take m.hw.length = m.hw) ∧ PutW nt fr dst (.c (.sl false n cs)) K) := rfl
@[congr] theorem appW_congr {ops : Array Oper} {o : Oper} {fr : Fr} {b b' : Option Bool} {K : Fr → Prop} (h : b = b') : AppW P nt ops o fr m b K = AppW P nt ops o fr m b' K := by rw [h]
@[congr] theorem appE_congr {fr : Fr} {dst : Option Tmp} {K : Fr → Prop} {e e' : Option Ev} (h : e = e') : AppE nt fr m dst K e = AppE nt fr m dst K e' := by rw [h]
def SeqM (P : Program) (nt : Nat) (ops : Array Oper) : List Oper → Fr → Mm → (Fr → Mm → Prop) → Prop
  | [], fr, m, Q => Q fr m
  | o :: r, fr, m, Q => if isApp o.op then AppW P nt ops o fr m (aWanted ops fr o) fun fr' => SeqM P nt ops r fr' m Q else StepW P nt ops o fr m fun kd fr' m' => (True ∧ m' = m) ∧ SeqM P nt ops r fr' m' Q
/-! ### what a world lets a value lead to -/
theorem lows_of {i j : Nat} : ∀ {cs : List AV}, (∀ (k : Nat) (c : AV), cs[k]? = some c → low i j c = true) → lows i j cs = true
  | [], _ => rfl
  | c :: r, h => by
    simp only [lows, Bool.and_eq_true]
    exact ⟨h 0 c rfl, lows_of fun k d hd => h (k + 1) d (by simpa using hd)⟩
theorem Rep.low {A B : Nat} (hl : ∀ i β, X.loc i = some β → i < A) (ho : ∀ k T, X.own k = some T → k < B) {c : AV} {x : Value} (h : Rep X c x) : Ab.low A B c = true := by
  have key : ∀ {vs : List AV} {xs : List Value}, vs.length = xs.length → (∀ (i : Nat) (c : AV) (x : Value), vs[i]? = some c → xs[i]? = some x → Ab.low A B c = true) → lows A B vs = true := fun {vs xs} hlen ih => lows_of fun k c hc => by
    have hk := (List.getElem?_eq_some_iff.1 hc).1
    exact ih k c _ hc (List.getElem?_eq_getElem (by rw [← hlen]; exact hk))
  induction h with
  | c h => rfl
  | agg h => rfl
  | tup hl' _ ih => simp only [Ab.low]; exact key hl' ih
  | own h hn hc hx ht =>
    obtain ⟨T, h1, _⟩ := ht
    simp only [Ab.low, Nat.blt_eq]
    exact ho _ T h1
  | ptr h => simp only [Ab.low, Nat.blt_eq]; exact hl _ _ h
  | cptr h hx => rfl
  | fn h1 _ h3 _ ih1 ih2 => simp only [Ab.low, Bool.and_eq_true]; exact ⟨key h1 ih1, key h3 ih2⟩
  | lsl h _ _ _ _ => simp only [Ab.low, Nat.blt_eq]; exact hl _ _ h
  | mapp h => simp only [Ab.low, Nat.blt_eq]; exact hl _ _ h
  | ifc _ ih => simp only [Ab.low]; exact ih
  | strc hl' _ _ ih => simp only [Ab.low]; exact key hl' ih
theorem MR.lowB (M : MR X W0 m w) : Ab.lowB m.hp.length m.hw.length m.hp = true := by
  have key : ∀ l : List Blk, (∀ b ∈ l, lows m.hp.length m.hw.length b.cs = true) → Ab.lowB m.hp.length m.hw.length l = true := fun l => by
    induction l with
    | nil => intro _; rfl
    | cons b l ih =>
      intro h
      simp only [Ab.lowB, Bool.and_eq_true]
      exact ⟨h b (by simp), ih fun c hc => h c (by simp [hc])⟩
  refine key _ fun b hb => ?_
  obtain ⟨i, hi, rfl⟩ := List.mem_iff_getElem.1 hb
  obtain ⟨β, _, _, _, hB⟩ := M.locs i m.hp[i] (List.getElem?_eq_getElem hi)
  cases hB with
  | dead h => rw [h]; rfl
  | ent h _ _ _ _ => rw [h]; rfl
  | byt h => rw [h]; rfl
  | bld h _ hv _ _ =>
    rw [h]
    simp only [lows, Ab.low, Bool.and_true]
    exact Rep.low (fun i β h => M.ldom i β h) (fun k T h => M.odom k T h) hv
  | cells _ _ hr _ _ =>
    refine lows_of fun k c hc => ?_
    have hk := (List.getElem?_eq_some_iff.1 hc).1
    have hlen := hr.1
    exact Rep.low (fun i β h => M.ldom i β h) (fun k T h => M.odom k T h) (hr.2 k c _ hc (List.getElem?_eq_getElem (by rw [← hlen]; exact hk)))
section
variable {l : List Oper} {A : List Nat}
end
@[congr] theorem seqM_congr {ops : Array Oper} {l : List Oper} {fr fr' : Fr} {m m' : Mm} {Q : Fr → Mm → Prop} (h : fr = fr') (hm : m = m') : SeqM P nt ops l fr m Q = SeqM P nt ops l fr' m' Q := by rw [h, hm]
attribute [go_sem] SeqM isStore isApp appW_true appW_false appE_own
end Go.Vs.Ab
namespace Go.Vs.Ab
open Go.RowKit
variable {P : Program} {X : Mem} {W0 w w' : World} {m : Mm} {nt : Nat} {md : Region.Mode} {ops : Array Oper} {Q : Exit → Act → World → Prop} {S : World → Prop}
/-! ### the end -/
inductive TI where
  | op (i : Nat)
  | put (i : Nat)
structure Put3 where
  t : TypeId
  x : Nat
  k : Operand
  v : Nat
  d : Nat
  e : Nat
def put3 (nt : Nat) (o1 o2 o3 : Oper) : Option Put3 :=
  match o1.op, o2.op, o3.op, o1.dst, o2.dst, o1.guard, o2.guard, o3.guard with
  | .mapEntry t (.tmp x) k, .extract (.tmp d1) 1, .entryStore t' (.tmp x') (.tmp e1) (.tmp v), some d, some e, none, none, none =>
    if Nat.beq d d1 && (Nat.beq e e1 && (Nat.beq t t' && (Nat.beq x x' && (!Nat.beq x d && (!Nat.beq x e && (!Nat.beq v d && (!Nat.beq v e && (Nat.blt d nt && Nat.blt e nt)))))))) && o3.dst.isNone then some ⟨t, x, k, v, d, e⟩ else none
  | _, _, _, _, _, _, _, _ => none
def aPut3 (P : Program) (fr : Fr) (m : Mm) (t : TypeId) (x : Option AV) (k v : Option Value) : Option Mm :=
  match x, k, v with
  | some p, some a, some b => aMapPutE P m t p a b
  | _, _, _ => none
def PutM (K : Mm → Prop) : Option Mm → Prop
  | some m' => K m'
  | none => False
def PutW3 (P : Program) (fr : Fr) (m : Mm) (K : Mm → Prop) : Option Put3 → Prop
  | some p => find fr p.d = none ∧ find fr p.e = none ∧ PutM K (aPut3 P fr m p.t (find fr p.x) (opdV fr p.k) (opdV fr (.tmp p.v)))
  | none => False
def TailW (P : Program) (nt : Nat) (ops : Array Oper) : List TI → Fr → Mm → (Fr → Mm → Prop) → Prop
  | [], fr, m, Q => Q fr m
  | .op i :: r, fr, m, Q => match ops[i]? with
    | none => False
    | some o => StepW P nt ops o fr m fun _ fr' m' => TailW P nt ops r fr' m' Q
  | .put i :: r, fr, m, Q => match ops[i]?, ops[i + 1]?, ops[i + 2]? with
    | some o1, some o2, some o3 => PutW3 P fr m (fun m' => TailW P nt ops r fr m' Q) (put3 nt o1 o2 o3)
    | _, _, _ => False
/-! ### the region -/
attribute [go_sem] TailW put3 aPut3 PutM PutW3 aMapPutE Option.isNone_none
end Go.Vs.Ab
namespace Go.Vs.Ab
open Go.RowKit
variable {P : Program} {X : Mem} {W0 w w' : World} {m : Mm}
def pureA (P : Program) (fr : Fr) (o : Oper) : Option AV :=
  match o.op with
  | .move x => opd fr x
  | .assign x => opd fr x
  | .pick c a b => match opd fr c with
    | some (.c (.v (.bool t))) => match t with
      | true => opd fr a
      | false => opd fr b
    | _ => none
  | .binOp op t x y _ => match opdV fr x, opdV fr y with
    | some a, some b => av1 (pureVal P (do eqGuard op t x y a b; binOp op t a b))
    | _, _ => none
  | .unOp op _ x => match opdV fr x with
    | some a => av1 (pureVal P (Op.unary op a))
    | none => none
  | .extract x i => match opd fr x with
    | some (.tup vs) => vs[i]?
    | _ => none
  | .nilCheck x => match opd fr x with
    | some (.ptr b off) => some (.ptr b off)
    | _ => none
  | .fieldAddr s x f => match opd fr x with
    | some (.ptr b off) => aFieldAddr P s f (.ptr b off)
    | _ => none
  | .indexAddr t x ix => match opd fr x, opd fr ix with
    | some (.lsl b lo n k), some i => aIndexL P t (.lsl b lo n k) i
    | _, _ => none
  | _ => none
theorem aIndexL_ptr {t : TypeId} {b lo n k : Nat} {i c : AV} (h : aIndexL P t (.lsl b lo n k) i = some c) : ∃ off kk ii, c = .ptr b off ∧ i = .c (.v (.int kk ii)) := by
  unfold aIndexL at h
  split at h
  · rename_i e b' lo' n' k' i' ht hl hi
    injection hl with hl
    injection hl with hl _
    subst hl
    have hint : ∃ kk ii, i = .c (.v (.int kk ii)) := by
      unfold intV at hi
      split at hi
      · exact ⟨_, _, rfl⟩
      · cases hi
    obtain ⟨kk, ii, rfl⟩ := hint
    split at h
    · split at h
      · injection h with h
        exact ⟨_, kk, ii, h.symm, rfl⟩
      · cases h
    · cases h
  · cases h
theorem av1_all {s : Sem Value} {c : AV} (h : av1 (pureVal P s) = some c) : ∃ V, Rep X c V ∧ ∀ w, s.run P w = .ok V w := by
  unfold av1 at h
  cases hp : pureVal P s with
  | none => rw [hp] at h; cases h
  | some v =>
    rw [hp] at h
    exact ⟨v, avOf1_rep h, fun w => pureVal_run hp w⟩
theorem pureA_ok {nt : Nat} {fr : Fr} {a : Act} {o : Oper} {c : AV} (F : FR X nt fr a) (h : pureA P fr o = some c) : ∃ V, Rep X c V ∧ ∀ w, (execOp a.eval o).run P w = .ok (.value V) w := by
  unfold pureA at h
  split at h
  · rename_i x hx
    exact ⟨_, opd_rep F h, fun w => by simp only [execOp, hx, Sem.run_pure]⟩
  · rename_i x hx
    exact ⟨_, opd_rep F h, fun w => by simp only [execOp, hx, Sem.run_pure]⟩
  · rename_i x y z hx
    split at h
    · rename_i t ht
      have hb : a.eval x = .bool t := val_rep rfl (opd_rep F ht)
      cases t with
      | true => exact ⟨_, opd_rep F h, fun w' => by simp [execOp, hx, hb, asBool]⟩
      | false => exact ⟨_, opd_rep F h, fun w' => by simp [execOp, hx, hb, asBool]⟩
    · cases h
  · rename_i op t x y yt hx
    split at h
    · rename_i u v h1 h2
      obtain ⟨V, g1, g2⟩ := av1_all (X := X) h
      refine ⟨V, g1, fun w => ?_⟩
      simp only [execOp, hx]
      rw [opdV_eq F h1, opdV_eq F h2, Sem.run_bind, g2 w]
      rfl
    · cases h
  · rename_i op t x hx
    split at h
    · rename_i u h1
      obtain ⟨V, g1, g2⟩ := av1_all (X := X) h
      refine ⟨V, g1, fun w => ?_⟩
      simp only [execOp, hx]
      rw [opdV_eq F h1, Sem.run_bind, g2 w]
      rfl
    · cases h
  · rename_i x i hx
    split at h
    · rename_i vs hv
      have hr := opd_rep F hv
      generalize hV : a.eval x = V at hr
      cases hr with
      | tup hl hh =>
        rename_i xs
        have hi := (List.getElem?_eq_some_iff.1 h).1
        have hi2 : i < xs.toList.length := by rw [← hl]; exact hi
        have hx2 : xs.toList[i]? = some xs.toList[i] := List.getElem?_eq_getElem hi2
        refine ⟨xs.toList[i], hh i c _ h hx2, fun w => ?_⟩
        have hx3 : xs[i]? = some xs.toList[i] := by simp
        simp [execOp, hx, hV, Instr.extract, hx3]
    · cases h
  · rename_i x hx
    split at h
    · rename_i b off hc
      have hr := opd_rep F hc
      injection h with h
      subst h
      generalize hV : a.eval x = V at hr
      refine ⟨V, hr, fun w => ?_⟩
      cases hr with
      | ptr hb => simp only [execOp, hx, hV, Sem.run_pure]
    · cases h
  · rename_i s x f hx
    split at h
    · rename_i b off hc
      have hr := opd_rep F hc
      generalize hV : a.eval x = V at hr
      unfold aFieldAddr at h
      split at h
      · rename_i fs h1
        split at h
        · rename_i fd h2
          split at h
          · rename_i i h3
            have q0 := tsz_spec h3
            clear h3
            obtain ⟨i, h3, rfl⟩ := q0
            split at h
            · cases h
            · rename_i h4
              have h4 : i.size ≠ 0 := by simpa using h4
              simp only [Option.some.injEq] at h
              subst h
              cases hr with
              | ptr hb =>
                refine ⟨_, .ptr hb, fun w => ?_⟩
                have := run_fieldAt h1 h2 h3 h4
                simp only [execOp, hx, hV, Sem.run_bind, this, Result.andThen_ok, Sem.run_pure]
          · cases h
        · cases h
      · cases h
    · cases h
  · rename_i t x ix hx
    split at h
    · rename_i b lo n k i h1 h2
      obtain ⟨off, kk, ii, rfl, rfl⟩ := aIndexL_ptr h
      have r1 := opd_rep F h1
      have r2 := opd_rep F h2
      generalize hV : a.eval x = V at r1
      generalize hI : a.eval ix = I at r2
      obtain rfl : I = .int kk ii := by
        cases r2 with
        | c r => cases r with
          | v r => rfl
      cases r1 with
      | lsl q1 q2 q3 q4 q5 =>
        rename_i β o cap
        refine ⟨_, .ptr q1, fun w => ?_⟩
        obtain ⟨V', g1, g2⟩ := aIndexL_ok (X := (⟨fun _ _ => none, X.loc, X.own, X.room⟩ : Mem)) (w := w) h (.lsl q1 q2 q3 q4 q5) (.c (.v rfl))
        cases g1 with
        | ptr hb =>
          have hb : X.loc b = some _ := hb
          rw [q1] at hb
          injection hb with hb
          subst hb
          have := g2 w ⟨fun _ _ _ h => (by cases h), fun _ _ _ => rfl⟩
          simp [execOp, hx, hV, hI, this]
    · cases h
  · cases h
def PureW (P : Program) (nt : Nat) (ops : Array Oper) (fr : Fr) (o : Oper) (K : Fr → Prop) : Prop :=
  match aWanted ops fr o with
  | some false => PutW nt fr o.dst (.tup []) K
  | some true => match pureA P fr o with
    | some c => PutW nt fr o.dst c K
    | none => False
  | none => False
theorem pureW_ok {nt : Nat} {fr : Fr} {a : Act} {ops : Array Oper} {o : Oper} {K : Fr → Prop} (F : FR X nt fr a) (h : PureW P nt ops fr o K) : ∃ V fr', Yields P ops o V a ∧ FR X nt fr' (a.put o.dst V) ∧ K fr' := by
  unfold PureW at h
  split at h
  · rename_i hw
    obtain ⟨fr', h1, h2⟩ := putW_ok F h rep_undef
    exact ⟨undef, fr', Or.inr ⟨aWanted_ok F hw, rfl⟩, h1, h2⟩
  · rename_i hw
    split at h
    · rename_i c hc
      obtain ⟨V, g1, g2⟩ := pureA_ok F hc
      obtain ⟨fr', h1, h2⟩ := putW_ok F h g1
      exact ⟨V, fr', Or.inl ⟨aWanted_ok F hw, g2⟩, h1, h2⟩
    · exact h.elim
  · exact h.elim
def OrdX (P : Program) (nt : Nat) (ops : Array Oper) : OT → Fr → Mm → (Fr → Mm → Prop) → Prop
  | .fin, fr, m, Q => Q fr m
  | .stop, _, _, _ => True
  | .one i t, fr, m, Q => match ops[i]? with
    | none => False
    | some o => PureW P nt ops fr o fun fr' => OrdX P nt ops t fr' m Q
  | .br i t more, fr, m, Q => (match ops[i]? with
    | none => False
    | some o => StepW P nt ops o fr m fun _ fr' m' => OrdX P nt ops t fr' m' Q) ∧ OrdX P nt ops more fr m Q
theorem ordX_wp {md : Region.Mode} {nt : Nat} {ops : Array Oper} {Q : Exit → Act → World → Prop} {R : Fr → Mm → Prop} (hsel : Region.noSelect ops = true) :
    ∀ (t : OT), (∀ {n : Nat} {listed : Array Bool} {X : Mem} {w : World} {m : Mm} {fr : Fr} {a : Act}, chkT md ops t false n listed = true → FR X nt fr a → MR X W0 m w →
      OrdX P nt ops t fr m R → (∀ fr' m' a' w' X', R fr' m' → X.Le W0.heap.size X' → FR X' nt fr' a' → MR X' W0 m' w' → Q .normal a' w') → wpAny P md ops (NoP Q) n listed a w) ∧
    (∀ {n : Nat} {listed : Array Bool} {X : Mem} {w : World} {m : Mm} {fr : Fr} {a : Act}, chkT md ops t true (n + 1) listed = true → FR X nt fr a → MR X W0 m w →
      OrdX P nt ops t fr m R → (∀ fr' m' a' w' X', R fr' m' → X.Le W0.heap.size X' → FR X' nt fr' a' → MR X' W0 m' w' → Q .normal a' w') →
      ∀ j ∈ t.heads, wpOp P ops (NoP Q) j (fun a' w' => wpAny P md ops (NoP Q) n (listed.setIfInBounds j true) a' w') a w)
  | .fin => by
    refine ⟨fun {n listed X w m fr a} hB F M h hQ => ?_, fun hB => by simp [chkT] at hB⟩
    cases n with
    | zero => exact ⟨by simpa [chkT] using hB, hQ _ _ _ _ X h (Mem.Le.refl _ _) F M⟩
    | succ n => simp [chkT] at hB
  | .stop => by
    refine ⟨fun {n listed X w m fr a} hB => ?_, fun _ _ _ _ _ j hj => by cases hj⟩
    cases n <;> simp [chkT] at hB
  | .one i t => by
    refine ⟨fun {n listed X w m fr a} hB F M h hQ => ?_, fun hB => by simp [chkT] at hB⟩
    cases n with
    | zero => simp [chkT] at hB
    | succ n =>
      simp only [chkT, Bool.and_eq_true] at hB
      obtain ⟨⟨hk1, hk2⟩, hB'⟩ := hB
      have hk1 : i ∈ Region.ready md ops listed := by simpa using hk1
      unfold OrdX at h
      split at h
      · exact h.elim
      · rename_i o ho
        obtain ⟨V, fr', g1, g2, g3⟩ := pureW_ok (ops := ops) F h
        have hnext := (ordX_wp hsel t).1 hB' g2 M g3 hQ
        exact wpAny_first ho (Region.noSelect_spec hsel) (fun _ _ _ h => h.elim) n listed a w (Region.free_spec ho hk2) hk1 g1 hnext
  | .br i t more => by
    have chain : ∀ {n : Nat} {listed : Array Bool} {X : Mem} {w : World} {m : Mm} {fr : Fr} {a : Act}, chkT md ops t false n (listed.setIfInBounds i true) = true → chkT md ops more true (n + 1) listed = true → FR X nt fr a → MR X W0 m w →
        OrdX P nt ops (.br i t more) fr m R → (∀ fr' m' a' w' X', R fr' m' → X.Le W0.heap.size X' → FR X' nt fr' a' → MR X' W0 m' w' → Q .normal a' w') →
        ∀ j ∈ (OT.br i t more).heads, wpOp P ops (NoP Q) j (fun a' w' => wpAny P md ops (NoP Q) n (listed.setIfInBounds j true) a' w') a w := fun {n listed X w m fr a} hB1 hB2 F M h hQ j hj => by
      have hj2 : j = i ∨ j ∈ more.heads := by simpa [OT.heads] using hj
      unfold OrdX at h
      rcases hj2 with rfl | hj2
      · have h := h.1
        split at h
        · exact h.elim
        · rename_i o ho
          refine stepW_wp ho F M h fun kd fr' m' a' w' X' k0 k1 k2 k3 k4 => ?_
          exact (ordX_wp hsel t).1 hB1 k2 k3 k0 fun fr2 m2 a2 w2 X2 l0 l1 l2 l3 => hQ fr2 m2 a2 w2 X2 l0 (k1.trans l1) l2 l3
      · exact (ordX_wp hsel more).2 hB2 F M h.2 hQ j hj2
    refine ⟨fun {n listed X w m fr a} hB F M h hQ => ?_, fun {n listed X w m fr a} hB F M h hQ => ?_⟩
    · cases n with
      | zero => simp [chkT] at hB
      | succ n =>
        simp only [chkT, Bool.and_eq_true, beq_iff_eq] at hB
        obtain ⟨hready, hB1, hB2⟩ := hB
        have hh : Region.ready md ops listed = (OT.br i t more).heads := hready
        refine ⟨fun e => (by rw [hready] at e; cases e), fun j hj => ?_⟩
        exact chain hB1 hB2 F M h hQ j (by rw [← hh]; exact hj)
    · simp only [chkT, Bool.and_eq_true] at hB
      exact chain hB.1 hB.2 F M h hQ
theorem tr_drawX {R : MRel} [hR : RelOk R] {nt : Nat} {fr : Fr} {Q : Ex → Fr → Mm → Prop} (hm : P.follows .mixedOrders = true) {id : Nat} {l : List Oper} (t : OT) (hB : treeB l t = true) (frC : Fr) (mC : Mm)
    (h : OrdX P nt l.toArray t fr m (fun fr' m' => SubF frC fr' ∧ m' = mC)) (hQ : Q .nrm frC mC) : Tr R P nt (.region id l.toArray true) fr m Q := fun X W0 w ac F M => by
  unfold treeB at hB
  simp only [Bool.and_eq_true] at hB
  obtain ⟨hsel, hB⟩ := hB
  refine wp_mono (wp_region_any (Q := NoP fun e a' w' => ∃ ex fr' m' X', e = Ex.out ex ∧ Q ex fr' m' ∧ R W0.heap.size X X' ∧ FR X' nt fr' a' ∧ MR X' W0 m' w') hm ?_) NoP.le
  have := (ordX_wp (P := P) (W0 := W0) (md := .any) (nt := nt) (ops := l.toArray) (Q := fun e a' w' => ∃ ex fr' m' X', e = Ex.out ex ∧ Q ex fr' m' ∧ R W0.heap.size X X' ∧ FR X' nt fr' a' ∧ MR X' W0 m' w') hsel t).1 (n := l.length) (listed := Array.replicate l.length false)
    hB F M.drew h (fun fr' m' a' w' X' k0 k1 k2 k3 => ⟨.nrm, frC, mC, X', rfl, hQ, hR.of k1, k2.weak k0.1.spec, by rw [← k0.2]; exact k3⟩)
  simpa using this
attribute [go_sem] OrdX PureW pureA
end Go.Vs.Ab
namespace Go.Proofs.YtaeehadibckcjaaDoor
open Go.RowKit Go.Vs Go.Vs.Ab
set_option maxRecDepth 100000
set_option maxHeartbeats 4000000
variable {A : List Blk} {hw : List Hw} {b : Nat} {ex : Bool} {L : List Tk} {n : Int}
theorem clearL_succ (L : List Tk) (n : Int) (f : Nat) (r : Rs) (out : List ByteArray) : clearL L n (f + 1) r out =
    if r.e = 0 then
      if isT L (nextR L n r 0) kCom then clearL L n f (nextR L n r 0).adv (out ++ [nextS L r 0])
      else (nextR L n r 0, out ++ [nextS L r 0])
    else (r, out) := rfl
theorem clean_col {T : Type} (enc : T → List CV) (k : Nat) (l : List T) : clean (colA enc k l) = some (.sl l.isEmpty l.length (l.flatMap enc)) := by
  cases l <;> rfl
theorem avCells_col {T : Type} (enc : T → List CV) (k : Nat) (l : List T) : avCells (colA enc k l) = some [colA enc k l] := by
  cases l <;> rfl
theorem appSw (hp : List Blk) (hw : List Hw) (l : List ByteArray) (a : ByteArray) (hl : l.length ≤ 10000000) : aAppend Tryd.prog ⟨hp, hw ++ colH 9 1 l⟩ 23 (colA stC hw.length l) (.c (.sl true 1 [.v (.string a)])) = some (colA stC hw.length (l ++ [a]), ⟨hp, hw ++ colH 9 1 (l ++ [a])⟩) :=
  app_col (P := Tryd.prog) stC (size := 1) (fun _ => rfl) Tryd.underlying23 info_s (hp := hp) (l := l) (x := a) (ex := true) (Nat.le_trans (show _ ≤ 10000001 by omega) (by decide)) (by omega)
def otClr : OT := .one 0 (.one 2 (.br 1 (.br 3 (.br 4 (.br 5 (.one 6 (.br 7 (.fin) (.stop))) (.stop)) (.stop)) (.stop)) (.br 3 (.br 1 (.br 4 (.br 5 (.one 6 (.br 7 (.fin) (.stop))) (.stop)) (.stop)) (.br 4 (.br 1 (.br 5 (.one 6 (.br 7 (.fin) (.stop))) (.stop)) (.stop)) (.stop))) (.stop))))
abbrev clB0 : Blk := ⟨false, [sA ⟨#[]⟩, .c (.sl true 0 [])]⟩
theorem clear_raw (hb : b < A.length) (hL : TkOk L) (r : Rs) (hr : r.i ≤ L.length) : ∃ y z : Blk, GivesW Tryd.prog 33 [.ptr b 0] ⟨A.set b (rdB ex L n r), hw⟩ (.agg [.v (.string (clearF L n r).2.1), .sl (clearF L n r).2.2.isEmpty (clearF L n r).2.2.length ((clearF L n r).2.2.flatMap stC)]) ⟨A.set b (rdB ex L n (clearF L n r).1) ++ [y, z], hw ++ colH 9 1 (clearF L n r).2.2⟩ := by
  have g := fun (E : List Blk) x => sa_get (A := A) (E := E) hb x
  have g' := fun x => s_get (A := A) hb x
  have c1 := withE (fun A' hb' => next_gives (A := A') (hw := hw) (ex := ex) (n := n) hb' hL r 0 (by omega)) hb [clB0]
  have hi1 := next_i (L := L) (n := n) (r := r) (s := 0)
  have hi2 := must_i (L := L) (n := n) (r := nextR L n r 0) (s := kCol)
  have hlen := hL.len
  unfold clearF
  dsimp only
  generalize nextS L r 0 = who at *
  have c2 := withE (fun A' hb' => must_gives (A := A') (hw := hw) (ex := ex) (n := n) hb' hL.len (nextR L n r 0) kCol) hb [clB0, ⟨false, [sA who, .c (.sl true 0 [])]⟩]
  generalize nextR L n r 0 = r1 at *
  generalize mustT L n r1 kCol = r0 at *
  obtain ⟨T, hT⟩ : ∃ T, T = clearL L n (L.length + 1) r0 [] := ⟨_, rfl⟩
  rw [← hT]
  refine ⟨⟨false, [sA who, .c (.sl T.2.isEmpty T.2.length (T.2.flatMap stC))]⟩, ⟨false, [sA who, colA stC hw.length T.2]⟩, ?_⟩
  refine givesW_of' Tryd.func33 rfl (by kernel_rfl) Tryd.ntmps33 rfl rfl fun Q hQ => ?_
  refine tr_low fun hW => ?_
  rw [List.length_set] at hW
  have hWk : ∀ (l : List ByteArray) (x : Rs), lowB (A.length + 2) (hw ++ colH 9 1 l).length (A.set b (rdB ex L n x) ++ [clB0, ⟨false, [sA who, colA stC hw.length l]⟩]) = true := fun l x => by
    refine low_ext (lowB_up (Nat.le_refl _) (by rw [List.length_append]; exact Nat.le_add_right _ _) hW) (by omega) rfl ?_
    simp only [lowB, lows, low_c, low_colW, Bool.and_self]
  repeat (first | refine tr_seq_k fun _ _ => ?_ | (refine tr_region ?_; simp only [go_sem, reduceCtorEq, Nat.reduceEqDiff, Nat.reduceLT, Nat.reduceLeDiff, Nat.reduceAdd, Nat.reduceMul, Nat.reduceSub, Nat.reduceBEq, ↓reduceIte, g, g', s_set, List.length_set, List.length_append, List.length_cons, List.length_nil, List.append_assoc, List.cons_append, List.nil_append, sa_get0, sa_get1, sa_set0, sa_set1]) | (refine call_givesW (c1) ?_; (try dsimp only); (try simp only [go_sem, reduceCtorEq, Nat.reduceEqDiff, Nat.reduceLT, Nat.reduceLeDiff, Nat.reduceAdd, Nat.reduceMul, Nat.reduceSub, Nat.reduceBEq, ↓reduceIte, g, g', s_set, List.length_set, List.length_append, List.length_cons, List.length_nil, List.append_assoc, List.cons_append, List.nil_append, sa_get0, sa_get1, sa_set0, sa_set1])) | (refine call_givesW (c2) ?_; (try dsimp only); (try simp only [go_sem, reduceCtorEq, Nat.reduceEqDiff, Nat.reduceLT, Nat.reduceLeDiff, Nat.reduceAdd, Nat.reduceMul, Nat.reduceSub, Nat.reduceBEq, ↓reduceIte, g, g', s_set, List.length_set, List.length_append, List.length_cons, List.length_nil, List.append_assoc, List.cons_append, List.nil_append, sa_get0, sa_get1, sa_set0, sa_set1])) | refine k_of (by assumption) ?_ | refine tr_block ?_)
  refine tr_loop_k (σ := Bool × Nat × Rs × List ByteArray) (fun q => [(0, .ptr b 0), (2, .ptr A.length 0), (3, .ptr (A.length + 1) 0), (4, bA q.1)]) (fun q => ⟨A.set b (rdB ex L n q.2.2.1) ++ [clB0, ⟨false, [sA who, colA stC hw.length q.2.2.2]⟩], hw ++ colH 9 1 q.2.2.2⟩)
      (fun q => (q.1 = true → clearL L n q.2.1 q.2.2.1 q.2.2.2 = T ∧ L.length < q.2.1 + q.2.2.1.i ∧ q.2.2.1.i ≤ L.length ∧ q.2.2.2.length + q.2.1 ≤ L.length + 1) ∧ (q.1 = false → (q.2.2.1, q.2.2.2) = T)) (fun q => if q.1 then q.2.1 + 1 else 0) (true, L.length + 1, r0, []) ⟨fun _ => ⟨hT.symm, by dsimp only; omega, by dsimp only; omega, by dsimp only [List.length_nil]; omega⟩, (fun h => by cases h)⟩ ⟨rfl, rfl, rfl, rfl, trivial⟩ (by simp [colH, colA]) ?_
  rintro ⟨more, f, r2, out⟩ ⟨hI1, hI2⟩ K hK
  dsimp only at hI1 hI2 ⊢
  have cc := clean_col stC hw.length out
  cases more with
  | false =>
      obtain rfl := hI2 rfl
      repeat (first | refine tr_seq_k fun _ _ => ?_ | (refine tr_region ?_; simp only [go_sem, reduceCtorEq, Nat.reduceEqDiff, Nat.reduceLT, Nat.reduceLeDiff, Nat.reduceAdd, Nat.reduceMul, Nat.reduceSub, Nat.reduceBEq, ↓reduceIte, g, g', s_set, List.length_set, List.length_append, List.length_cons, List.length_nil, List.append_assoc, List.cons_append, List.nil_append, sa_get0, sa_get1, sa_set0, sa_set1]) | refine k_of (by assumption) ?_)
      refine tr_cond rfl (fun ht => ?_) (fun hf => ?_)
      · cases ht
      · repeat (first | refine tr_seq_k fun _ _ => ?_ | (refine tr_region ?_; simp only [go_sem, reduceCtorEq, Nat.reduceEqDiff, Nat.reduceLT, Nat.reduceLeDiff, Nat.reduceAdd, Nat.reduceMul, Nat.reduceSub, Nat.reduceBEq, ↓reduceIte, g, g', s_set, List.length_set, List.length_append, List.length_cons, List.length_nil, List.append_assoc, List.cons_append, List.nil_append, sa_get0, sa_get1, sa_set0, sa_set1, cc]) | refine k_of (by assumption) ?_ | (refine tr_exit ?_; try simp only [ex_seq_exit, ex_block_exit, Nat.reduceEqDiff, if_true, if_false, ex_seq, ex_block, reduceCtorEq, ↓reduceIte]) | (refine tr_ret ?_; try simp only [ex_seq_ret, ex_block_ret]))
        refine (hQ _ _ [.agg [.v (.string who), .sl out.isEmpty out.length (out.flatMap stC)]] ?_ rfl rfl).2 <;> simp only [go_sem, reduceCtorEq, Nat.reduceEqDiff, Nat.reduceLT, Nat.reduceLeDiff, Nat.reduceAdd, Nat.reduceMul, Nat.reduceSub, Nat.reduceBEq, ↓reduceIte, Tryd.f33, g, g', s_set, List.length_set, List.length_append, List.length_cons, List.length_nil, List.append_assoc, List.cons_append, List.nil_append, sa_get0, sa_get1, sa_set0, sa_set1, cc]
  | true =>
      obtain ⟨hS, hf1, hi3, ho1⟩ := hI1 rfl
      obtain ⟨f, rfl⟩ : ∃ f', f = f' + 1 := ⟨f - 1, by omega⟩
      rw [clearL_succ] at hS
      cases d1 : decide (r2.e = 0) with
      | false =>
        rw [if_neg (of_decide_eq_false d1)] at hS
        obtain rfl := hS
        repeat (first | refine tr_seq_k fun _ _ => ?_ | (refine tr_region ?_; simp only [go_sem, reduceCtorEq, Nat.reduceEqDiff, Nat.reduceLT, Nat.reduceLeDiff, Nat.reduceAdd, Nat.reduceMul, Nat.reduceSub, Nat.reduceBEq, ↓reduceIte, g, g', s_set, List.length_set, List.length_append, List.length_cons, List.length_nil, List.append_assoc, List.cons_append, List.nil_append, sa_get0, sa_get1, sa_set0, sa_set1, d1]) | refine k_of (by assumption) ?_)
        refine tr_cond rfl (fun ht => ?_) (fun hf => ?_)
        · cases ht
        · repeat (first | refine tr_seq_k fun _ _ => ?_ | (refine tr_region ?_; simp only [go_sem, reduceCtorEq, Nat.reduceEqDiff, Nat.reduceLT, Nat.reduceLeDiff, Nat.reduceAdd, Nat.reduceMul, Nat.reduceSub, Nat.reduceBEq, ↓reduceIte, g, g', s_set, List.length_set, List.length_append, List.length_cons, List.length_nil, List.append_assoc, List.cons_append, List.nil_append, sa_get0, sa_get1, sa_set0, sa_set1, cc]) | refine k_of (by assumption) ?_ | (refine tr_exit ?_; try simp only [ex_seq_exit, ex_block_exit, Nat.reduceEqDiff, if_true, if_false, ex_seq, ex_block, reduceCtorEq, ↓reduceIte]) | (refine tr_ret ?_; try simp only [ex_seq_ret, ex_block_ret]))
          refine (hQ _ _ [.agg [.v (.string who), .sl out.isEmpty out.length (out.flatMap stC)]] ?_ rfl rfl).2 <;> simp only [go_sem, reduceCtorEq, Nat.reduceEqDiff, Nat.reduceLT, Nat.reduceLeDiff, Nat.reduceAdd, Nat.reduceMul, Nat.reduceSub, Nat.reduceBEq, ↓reduceIte, Tryd.f33, g, g', s_set, List.length_set, List.length_append, List.length_cons, List.length_nil, List.append_assoc, List.cons_append, List.nil_append, sa_get0, sa_get1, sa_set0, sa_set1, cc]
      | true =>
        rw [if_pos (of_decide_eq_true d1)] at hS
        have cA := withE (fun A' hb' => next_gives (A := A') (hw := hw ++ colH 9 1 out) (ex := ex) (n := n) hb' hL r2 0 (by omega)) hb [clB0, ⟨false, [sA who, colA stC hw.length out]⟩]
        have hai := next_i (L := L) (n := n) (r := r2) (s := 0)
        generalize nextR L n r2 0 = r3 at *
        generalize nextS L r2 0 = s at *
        have ap := appSw (A.set b (rdB ex L n r3) ++ [clB0, ⟨false, [sA who, colA stC hw.length out]⟩]) hw out s (by omega)
        have b1 := build1T s
        have px : plain1 (colA stC hw.length out) = true := plain1_col _ _ _
        have ac := avCells_col stC hw.length (out ++ [s])
        have cC := withE (fun A' hb' => maybe_gives (A := A') (hw := hw ++ colH 9 1 (out ++ [s])) (ex := ex) (n := n) hb' hL.len r3 kCom) hb [clB0, ⟨false, [sA who, colA stC hw.length (out ++ [s])]⟩]
        unfold maybeR at cC
        repeat (first | refine tr_seq_k fun _ _ => ?_ | (refine tr_region ?_; simp only [go_sem, reduceCtorEq, Nat.reduceEqDiff, Nat.reduceLT, Nat.reduceLeDiff, Nat.reduceAdd, Nat.reduceMul, Nat.reduceSub, Nat.reduceBEq, ↓reduceIte, g, g', s_set, List.length_set, List.length_append, List.length_cons, List.length_nil, List.append_assoc, List.cons_append, List.nil_append, sa_get0, sa_get1, sa_set0, sa_set1, d1]) | refine k_of (by assumption) ?_)
        refine tr_cond rfl (fun ht => ?_) (fun hf => ?_)
        · refine tr_skip ?_
          simp only [ex_seq]
          refine k_of (by assumption) ?_
          refine tr_seq_k fun K5 hK5 => ?_
          refine tr_block ?_
          refine tr_drawX (id := 6) follows otClr (by kernel_rfl) [(0, .ptr b 0), (2, .ptr A.length 0), (3, .ptr (A.length + 1) 0)] ⟨A.set b (rdB ex L n r3) ++ [clB0, ⟨false, [sA who, colA stC hw.length (out ++ [s])]⟩], hw ++ colH 9 1 (out ++ [s])⟩ ?_ ?_
          · unfold otClr
            simp only [go_sem, reduceCtorEq, Nat.reduceEqDiff, Nat.reduceLT, Nat.reduceLeDiff, Nat.reduceAdd, Nat.reduceMul, Nat.reduceSub, Nat.reduceBEq, ↓reduceIte, g, g', s_set, List.length_set, List.length_append, List.length_cons, List.length_nil, List.append_assoc, List.cons_append, List.nil_append, sa_get0, sa_get1, sa_set0, sa_set1, b1, one_max, ap, ac]
            repeat' (first | (refine call_givesW (cA) ?_; (try dsimp only); (try simp only [go_sem, reduceCtorEq, Nat.reduceEqDiff, Nat.reduceLT, Nat.reduceLeDiff, Nat.reduceAdd, Nat.reduceMul, Nat.reduceSub, Nat.reduceBEq, ↓reduceIte, g, g', s_set, List.length_set, List.length_append, List.length_cons, List.length_nil, List.append_assoc, List.cons_append, List.nil_append, sa_get0, sa_get1, sa_set0, sa_set1, b1, one_max, ap, ac, px])) | refine And.intro ?_ ?_)
          · cases h5 : isT L r3 kCom with
            | true =>
              have hlt3 := (isT_lt h5).2
              rw [h5, if_pos rfl] at cC
              rw [h5, if_pos rfl] at hS
              repeat (first | (refine tr_region ?_; simp only [go_sem, reduceCtorEq, Nat.reduceEqDiff, Nat.reduceLT, Nat.reduceLeDiff, Nat.reduceAdd, Nat.reduceMul, Nat.reduceSub, Nat.reduceBEq, ↓reduceIte, g, g', s_set, List.length_set, List.length_append, List.length_cons, List.length_nil, List.append_assoc, List.cons_append, List.nil_append, sa_get0, sa_get1, sa_set0, sa_set1]) | (refine call_givesW (cC) ?_; (try dsimp only); (try simp only [go_sem, reduceCtorEq, Nat.reduceEqDiff, Nat.reduceLT, Nat.reduceLeDiff, Nat.reduceAdd, Nat.reduceMul, Nat.reduceSub, Nat.reduceBEq, ↓reduceIte, g, g', s_set, List.length_set, List.length_append, List.length_cons, List.length_nil, List.append_assoc, List.cons_append, List.nil_append, sa_get0, sa_get1, sa_set0, sa_set1])) | refine k_of (by assumption) ?_)
              exact hK (true, f, r3.adv, out ++ [s]) _ _ ⟨fun _ => ⟨hS, by show L.length < f + (r3.i + 1); omega, hlt3, by simp only [List.length_append, List.length_cons, List.length_nil]; omega⟩, (fun h => by cases h)⟩ ⟨⟨rfl, rfl, rfl, rfl, trivial⟩, Keep.refl _, by simp only [lowF, low_colW, low_ptr, low_c, List.length_append, List.length_set, List.length_cons, List.length_nil, Nat.blt_eq, Bool.and_eq_true, and_true]; omega, by rw [List.length_append, List.length_set]; exact hWk _ _, by simp only [List.length_append, List.length_set]; exact Nat.le_refl _, by simp only [List.length_append, colH, List.length_nil]; omega⟩ (by simp)
            | false =>
              rw [h5, if_neg Bool.false_ne_true] at cC
              rw [h5, if_neg Bool.false_ne_true] at hS
              repeat (first | (refine tr_region ?_; simp only [go_sem, reduceCtorEq, Nat.reduceEqDiff, Nat.reduceLT, Nat.reduceLeDiff, Nat.reduceAdd, Nat.reduceMul, Nat.reduceSub, Nat.reduceBEq, ↓reduceIte, g, g', s_set, List.length_set, List.length_append, List.length_cons, List.length_nil, List.append_assoc, List.cons_append, List.nil_append, sa_get0, sa_get1, sa_set0, sa_set1]) | (refine call_givesW (cC) ?_; (try dsimp only); (try simp only [go_sem, reduceCtorEq, Nat.reduceEqDiff, Nat.reduceLT, Nat.reduceLeDiff, Nat.reduceAdd, Nat.reduceMul, Nat.reduceSub, Nat.reduceBEq, ↓reduceIte, g, g', s_set, List.length_set, List.length_append, List.length_cons, List.length_nil, List.append_assoc, List.cons_append, List.nil_append, sa_get0, sa_get1, sa_set0, sa_set1])) | refine k_of (by assumption) ?_)
              exact hK (false, f, r3, out ++ [s]) _ _ ⟨(fun h => by cases h), fun _ => hS⟩ ⟨⟨rfl, rfl, rfl, rfl, trivial⟩, Keep.refl _, by simp only [lowF, low_colW, low_ptr, low_c, List.length_append, List.length_set, List.length_cons, List.length_nil, Nat.blt_eq, Bool.and_eq_true, and_true]; omega, by rw [List.length_append, List.length_set]; exact hWk _ _, by simp only [List.length_append, List.length_set]; exact Nat.le_refl _, by simp only [List.length_append, colH, List.length_nil]; omega⟩ (by simp)
        · cases hf
theorem clear_gives (hb : b < A.length) (hL : TkOk L) (r : Rs) (hr : r.i ≤ L.length) : GivesW Tryd.prog 33 [.ptr b 0] ⟨A.set b (rdB ex L n r), hw⟩ (.agg [.v (.string (clearF L n r).2.1), .sl (clearF L n r).2.2.isEmpty (clearF L n r).2.2.length ((clearF L n r).2.2.flatMap stC)]) ⟨A.set b (rdB ex L n (clearF L n r).1), hw⟩ := by
  obtain ⟨y, z, h⟩ := clear_raw (hw := hw) (ex := ex) (n := n) hb hL r hr
  refine h.trim ⟨⟨[y, z], rfl⟩, ⟨_, rfl⟩⟩ (fun hl => ?_) (by simp) (Nat.le_refl _) (cut_shut rfl)
  simp only [List.length_set] at hl ⊢
  exact low_re hl rfl
end Go.Proofs.YtaeehadibckcjaaDoor
namespace Go.Vs.Ab
open Go.RowKit
variable {P : Program}
def apK {T : Type} (hw : List Hw) (k : Nat) : List T → Nat
  | [] => hw.length
  | _ :: _ => k
def apH {T : Type} (hw : List Hw) (k : Nat) (e : TypeId) (size : Nat) : List T → List Hw
  | [] => hw ++ [⟨1, e, size⟩]
  | _ :: l => hw.set k ⟨l.length + 1 + 1, e, size⟩
def ColIs {T : Type} (hw : List Hw) (k : Nat) (e : TypeId) (size : Nat) (l : List T) : Prop := l ≠ [] → hw[k]? = some ⟨l.length, e, size⟩
theorem colIs_nil {T : Type} (hw : List Hw) (k : Nat) (e : TypeId) (size : Nat) : ColIs (T := T) hw k e size [] := fun h => absurd rfl h
theorem colIs_low {T : Type} {enc : T → List CV} {hw : List Hw} {k : Nat} {e : TypeId} {size : Nat} {l : List T} (h : ColIs hw k e size l) (i : Nat) : low i hw.length (colA enc k l) = true := by
  cases l with
  | nil => rfl
  | cons x l =>
    have := (List.getElem?_eq_some_iff.1 (h (by simp))).1
    simp only [colA, low, Nat.blt_eq]
    exact this
theorem app_gen {T : Type} (enc : T → List CV) {t e : TypeId} {size bytes : Nat} (hk : ∀ x, (enc x).length = size) (ht : P.underlying t = some (.slice e)) (hi : info3 P e = some (size, bytes)) {hw : List Hw} {k : Nat} {l : List T} {x : T} (hI : ColIs hw k e size l)
    (hl : l.length + 1 ≤ maxLen) (hb : (l.length + 1) * bytes ≤ 140737488355328) (hp : List Blk) :
    aAppend P ⟨hp, hw⟩ t (colA enc k l) (.c (.sl true 1 (enc x))) = some (colA enc (apK hw k l) (l ++ [x]), ⟨hp, apH hw k e size l⟩) := by
  have hf : ∀ lc, lc = l.length * size → fits l.length 1 size bytes lc (enc x).length = true := fun lc e1 => by
    have h1 : Nat.ble (l.length + 1) maxLen = true := by simpa using hl
    have h2 : Nat.ble ((l.length + 1) * bytes) 140737488355328 = true := by simpa using hb
    simp only [fits, e1, hk, h1, h2, Nat.one_mul, Nat.beq_refl, Bool.and_self]
  have hne : l ++ [x] ≠ [] := by simp
  rw [colA_ne enc _ hne]
  have e2 : (l ++ [x]).length = l.length + 1 := by simp
  have e3 : (l ++ [x]).flatMap enc = l.flatMap enc ++ enc x := by simp
  cases l with
  | nil =>
    have := hf 0 (by simp)
    simp only [List.length_nil] at this
    simp only [aAppend, ht, hi, slV, colA, dst, apK, apH, List.length_nil, this, if_true, e2, e3, List.flatMap_nil, List.nil_append, Nat.zero_add]
    rw [if_neg (by decide)]
    simp
  | cons y l =>
    have := hf (((y :: l).flatMap enc).length) (flat_length enc size hk _)
    simp only [List.length_cons] at this
    have h5 : hw[k]? = some ⟨l.length + 1, e, size⟩ := hI (by simp)
    simp only [aAppend, ht, hi, slV, colA, dst, apK, apH, h5, Nat.beq_refl, this, Bool.and_self, if_true, e2, e3, List.length_cons]
    rw [if_neg (by decide)]
theorem apH_self {T : Type} {hw : List Hw} {k : Nat} {e : TypeId} {size : Nat} {l : List T} (x : T) (h : ColIs hw k e size l) : ColIs (apH hw k e size l) (apK hw k l) e size (l ++ [x]) := fun _ => by
  cases l with
  | nil => simp [apH, apK]
  | cons y l =>
    have := (List.getElem?_eq_some_iff.1 (h (by simp))).1
    simp only [apH, apK]
    rw [List.getElem?_set_self this]
    simp
theorem apH_other {T U : Type} {hw : List Hw} {k k' : Nat} {e e' : TypeId} {size size' : Nat} {l : List T} {l' : List U} (h : ColIs hw k e size l) (h' : ColIs hw k' e' size' l') (hne : e ≠ e') : ColIs (apH hw k e size l) k' e' size' l' := fun hl => by
  have g := h' hl
  have hlt := (List.getElem?_eq_some_iff.1 g).1
  cases l with
  | nil =>
    simp only [apH]
    rw [List.getElem?_append_left hlt]
    exact g
  | cons y l =>
    have g2 := h (by simp)
    simp only [apH]
    rw [List.getElem?_set_ne, g]
    intro ek
    subst ek
    rw [g2] at g
    injection g with g
    injection g with _ g _
    exact hne g
theorem apH_len {T : Type} (hw : List Hw) (k : Nat) (e : TypeId) (size : Nat) (l : List T) : hw.length ≤ (apH hw k e size l).length := by
  cases l with
  | nil => simp [apH]
  | cons => simp [apH]
end Go.Vs.Ab
namespace Go.Proofs.YtaeehadibckcjaaDoor
open Go.RowKit Go.Vs Go.Vs.Ab
set_option maxRecDepth 100000
set_option maxHeartbeats 4000000
/-! ### the plain law -/
structure Pp where
  prin : List ByteArray
  preds : List Prd
  clears : List Clr
  quota : Int
  budget : Int
  rules : List Rul
  grants : List Grt
def canT (L : List Tk) (r : Rs) : Bool := decide (r.e = 0) && (match L[r.i + 1]? with | some t => decide (t.text = kCan) | none => false)
def saysF (L : List Tk) (n : Int) (r : Rs) (p : Pp) : Rs × Pp :=
  let who := nextS L r 0
  let r1 := mustT L n (nextR L n r 0) kSays
  if canT L r1 then
    let h := saidF L n (mustT L n (nextR L n r1 0) kCan) who
    let b := bodyF L n h.1
    (b.1, { p with grants := p.grants ++ [⟨nextS L r1 0, h.2, b.2.isEmpty, b.2⟩] })
  else
    let h := saidF L n r1 who
    let b := bodyF L n h.1
    (b.1, { p with rules := p.rules ++ [⟨h.2, b.2.isEmpty, b.2⟩] })
structure Pst where
  r : Rs
  p : Pp
  wq : Bool
  wb : Bool
abbrev kPrin : ByteArray := ⟨#[112, 114, 105, 110, 99, 105, 112, 97, 108]⟩
abbrev kPred : ByteArray := ⟨#[112, 114, 101, 100]⟩
abbrev kClear : ByteArray := ⟨#[99, 108, 101, 97, 114]⟩
abbrev kQuota : ByteArray := ⟨#[113, 117, 111, 116, 97]⟩
abbrev kBudget : ByteArray := ⟨#[98, 117, 100, 103, 101, 116]⟩
def armF (L : List Tk) (n : Int) (s : Pst) : Pst :=
  if isT L s.r kPrin then { s with r := nextR L n s.r.adv 0, p := { s.p with prin := s.p.prin ++ [nextS L s.r.adv 0] } }
  else if isT L s.r kPred then
    let r2 := mustT L n (nextR L n s.r.adv 1) kSl
    { s with r := nextR L n r2 3, p := { s.p with preds := s.p.preds ++ [⟨nextS L s.r.adv 1, numB (nextS L r2 3)⟩] } }
  else if isT L s.r kClear then
    let c := clearF L n s.r.adv
    { s with r := c.1, p := { s.p with clears := s.p.clears ++ [⟨c.2.1, c.2.2.isEmpty, c.2.2⟩] } }
  else if isT L s.r kQuota then
    let r2 := onceR L n s.r.adv s.wq
    { s with r := nextR L n r2 3, p := { s.p with quota := numB (nextS L r2 3) }, wq := true }
  else if isT L s.r kBudget then
    let r2 := onceR L n s.r.adv s.wb
    { s with r := nextR L n r2 3, p := { s.p with budget := numB (nextS L r2 3) }, wb := true }
  else { s with r := (saysF L n s.r s.p).1, p := (saysF L n s.r s.p).2 }
def stepF (L : List Tk) (n : Int) (s : Pst) : Pst := { armF L n s with r := mustT L n (armF L n s).r kDot }
def polL (L : List Tk) (n : Int) : Nat → Pst → Pst
  | 0, s => s
  | f + 1, s => if s.r.e = 0 ∧ s.r.i < L.length then polL L n f (stepF L n s) else s
def pp0 : Pp := ⟨[], [], [], 0, 0, [], []⟩
def polS (L : List Tk) (n : Int) : Pst := polL L n (L.length + 1) ⟨⟨0, 0, 0⟩, pp0, false, false⟩
def polOf (p : Pp) : Pol := ⟨p.prin.isEmpty, p.prin, p.preds.isEmpty, p.preds, p.clears.isEmpty, p.clears, p.quota, p.budget, p.rules.isEmpty, p.rules, p.grants.isEmpty, p.grants⟩
def pol0 : Pol := polOf pp0
def polParse (s : ByteArray) : Pol × Int × Int :=
  if (toksAll s).2.2 ≠ 0 then (pol0, (toksAll s).2.1, (toksAll s).2.2)
  else if (polS (toksAll s).1 s.size).r.e ≠ 0 then (pol0, (polS (toksAll s).1 s.size).r.at_, (polS (toksAll s).1 s.size).r.e)
  else (polOf (polS (toksAll s).1 s.size).p, 0, 0)
/-! ### a policy that is collected -/
structure Ks where
  k1 : Nat
  k2 : Nat
  k3 : Nat
  k4 : Nat
  k5 : Nat
def polC (p : Pp) (k : Ks) : List AV := [colA stC k.k1 p.prin, colA prC k.k2 p.preds, colA clC k.k3 p.clears, iA p.quota, iA p.budget, colA ruC k.k4 p.rules, colA grC k.k5 p.grants]
attribute [go_sem] polC
abbrev polB (p : Pp) (k : Ks) : Blk := ⟨false, polC p k⟩
structure KsOk (hw : List Hw) (p : Pp) (k : Ks) : Prop where
  h1 : ColIs hw k.k1 9 1 p.prin
  h2 : ColIs hw k.k2 69 2 p.preds
  h3 : ColIs hw k.k3 54 2 p.clears
  h4 : ColIs hw k.k4 45 12 p.rules
  h5 : ColIs hw k.k5 48 13 p.grants
theorem ksOk_low {hw : List Hw} {p : Pp} {k : Ks} (h : KsOk hw p k) (i : Nat) : lows i hw.length (polC p k) = true := by
  simp only [polC, lows, colIs_low h.h1, colIs_low h.h2, colIs_low h.h3, colIs_low h.h4, colIs_low h.h5, low_c, Bool.and_self]
theorem KsOk.prin {hw : List Hw} {p : Pp} {k : Ks} (h : KsOk hw p k) (x : ByteArray) : KsOk (apH hw k.k1 9 1 p.prin) { p with prin := p.prin ++ [x] } { k with k1 := apK hw k.k1 p.prin } :=
  ⟨apH_self x h.h1, apH_other h.h1 h.h2 (by decide), apH_other h.h1 h.h3 (by decide), apH_other h.h1 h.h4 (by decide), apH_other h.h1 h.h5 (by decide)⟩
theorem KsOk.preds {hw : List Hw} {p : Pp} {k : Ks} (h : KsOk hw p k) (x : Prd) : KsOk (apH hw k.k2 69 2 p.preds) { p with preds := p.preds ++ [x] } { k with k2 := apK hw k.k2 p.preds } :=
  ⟨apH_other h.h2 h.h1 (by decide), apH_self x h.h2, apH_other h.h2 h.h3 (by decide), apH_other h.h2 h.h4 (by decide), apH_other h.h2 h.h5 (by decide)⟩
theorem KsOk.clears {hw : List Hw} {p : Pp} {k : Ks} (h : KsOk hw p k) (x : Clr) : KsOk (apH hw k.k3 54 2 p.clears) { p with clears := p.clears ++ [x] } { k with k3 := apK hw k.k3 p.clears } :=
  ⟨apH_other h.h3 h.h1 (by decide), apH_other h.h3 h.h2 (by decide), apH_self x h.h3, apH_other h.h3 h.h4 (by decide), apH_other h.h3 h.h5 (by decide)⟩
theorem KsOk.rules {hw : List Hw} {p : Pp} {k : Ks} (h : KsOk hw p k) (x : Rul) : KsOk (apH hw k.k4 45 12 p.rules) { p with rules := p.rules ++ [x] } { k with k4 := apK hw k.k4 p.rules } :=
  ⟨apH_other h.h4 h.h1 (by decide), apH_other h.h4 h.h2 (by decide), apH_other h.h4 h.h3 (by decide), apH_self x h.h4, apH_other h.h4 h.h5 (by decide)⟩
theorem KsOk.grants {hw : List Hw} {p : Pp} {k : Ks} (h : KsOk hw p k) (x : Grt) : KsOk (apH hw k.k5 48 13 p.grants) { p with grants := p.grants ++ [x] } { k with k5 := apK hw k.k5 p.grants } :=
  ⟨apH_other h.h5 h.h1 (by decide), apH_other h.h5 h.h2 (by decide), apH_other h.h5 h.h3 (by decide), apH_other h.h5 h.h4 (by decide), apH_self x h.h5⟩
theorem info_pr : info3 Tryd.prog 69 = some (2, 24) := by simp only [info3, sz69, by69, ze69]; rfl
theorem info_cl : info3 Tryd.prog 54 = some (2, 40) := by simp only [info3, sz54, by54, ze54]; rfl
theorem info_ru : info3 Tryd.prog 45 = some (12, 160) := by simp only [info3, sz45, by45, ze45]; rfl
theorem info_gr : info3 Tryd.prog 48 = some (13, 176) := by simp only [info3, sz48, by48, ze48]; rfl
theorem ml {n : Nat} (h : n ≤ 10000000) : n + 1 ≤ maxLen := Nat.le_trans (show _ ≤ 10000001 by omega) (by decide)
theorem apGr {hw : List Hw} {k : Nat} {l : List Grt} (tw : ByteArray) (a : Atm) (B : List Atm) (hI : ColIs hw k 48 13 l) (hl : l.length ≤ 10000000) (hp : List Blk) : aAppend Tryd.prog ⟨hp, hw⟩ 27 (colA grC k l) (.c (.sl true 1 [.v (.string tw), .v (.string a.says), .v (.string a.pred), .v (.int .i64 a.n), .v (.bool a.a0.v), .v (.string a.a0.name), .v (.bool a.a1.v), .v (.string a.a1.name), .v (.bool a.a2.v), .v (.string a.a2.name), .v (.bool a.a3.v), .v (.string a.a3.name), .sl B.isEmpty B.length (B.flatMap atC)])) = some (colA grC (apK hw k l) (l ++ [⟨tw, a, B.isEmpty, B⟩]), ⟨hp, apH hw k 48 13 l⟩) :=
  app_gen (P := Tryd.prog) grC (x := ⟨tw, a, B.isEmpty, B⟩) (fun _ => rfl) Tryd.underlying27 info_gr hI (ml hl) (by omega) hp
theorem apRu {hw : List Hw} {k : Nat} {l : List Rul} (a : Atm) (B : List Atm) (hI : ColIs hw k 45 12 l) (hl : l.length ≤ 10000000) (hp : List Blk) : aAppend Tryd.prog ⟨hp, hw⟩ 26 (colA ruC k l) (.c (.sl true 1 [.v (.string a.says), .v (.string a.pred), .v (.int .i64 a.n), .v (.bool a.a0.v), .v (.string a.a0.name), .v (.bool a.a1.v), .v (.string a.a1.name), .v (.bool a.a2.v), .v (.string a.a2.name), .v (.bool a.a3.v), .v (.string a.a3.name), .sl B.isEmpty B.length (B.flatMap atC)])) = some (colA ruC (apK hw k l) (l ++ [⟨a, B.isEmpty, B⟩]), ⟨hp, apH hw k 45 12 l⟩) :=
  app_gen (P := Tryd.prog) ruC (x := ⟨a, B.isEmpty, B⟩) (fun _ => rfl) Tryd.underlying26 info_ru hI (ml hl) (by omega) hp
theorem bldGr (tw : ByteArray) (a : Atm) (B : List Atm) : aBuildSlice Tryd.prog 27 1 [(0, .agg [.v (.string tw), .v (.string a.says), .v (.string a.pred), .v (.int .i64 a.n), .v (.bool a.a0.v), .v (.string a.a0.name), .v (.bool a.a1.v), .v (.string a.a1.name), .v (.bool a.a2.v), .v (.string a.a2.name), .v (.bool a.a3.v), .v (.string a.a3.name), .sl B.isEmpty B.length (B.flatMap atC)])] = some [.v (.string tw), .v (.string a.says), .v (.string a.pred), .v (.int .i64 a.n), .v (.bool a.a0.v), .v (.string a.a0.name), .v (.bool a.a1.v), .v (.string a.a1.name), .v (.bool a.a2.v), .v (.string a.a2.name), .v (.bool a.a3.v), .v (.string a.a3.name), .sl B.isEmpty B.length (B.flatMap atC)] := build1 Tryd.underlying27 sz48 ze48 (by decide) (by decide) (by decide) rfl rfl
theorem bldRu (a : Atm) (B : List Atm) : aBuildSlice Tryd.prog 26 1 [(0, .agg [.v (.string a.says), .v (.string a.pred), .v (.int .i64 a.n), .v (.bool a.a0.v), .v (.string a.a0.name), .v (.bool a.a1.v), .v (.string a.a1.name), .v (.bool a.a2.v), .v (.string a.a2.name), .v (.bool a.a3.v), .v (.string a.a3.name), .sl B.isEmpty B.length (B.flatMap atC)])] = some [.v (.string a.says), .v (.string a.pred), .v (.int .i64 a.n), .v (.bool a.a0.v), .v (.string a.a0.name), .v (.bool a.a1.v), .v (.string a.a1.name), .v (.bool a.a2.v), .v (.string a.a2.name), .v (.bool a.a3.v), .v (.string a.a3.name), .sl B.isEmpty B.length (B.flatMap atC)] := build1 Tryd.underlying26 sz45 ze45 (by decide) (by decide) (by decide) rfl rfl
def otSays : OT := .one 0 (.one 1 (.one 2 (.one 3 (.one 6 (.br 4 (.br 5 (.br 7 (.br 8 (.br 9 (.br 10 (.one 11 (.one 12 (.br 13 (.fin) (.stop)))) (.stop)) (.stop)) (.stop)) (.stop)) (.br 7 (.br 5 (.br 8 (.br 9 (.br 10 (.one 11 (.one 12 (.br 13 (.fin) (.stop)))) (.stop)) (.stop)) (.stop)) (.stop)) (.stop))) (.br 5 (.br 4 (.br 7 (.br 8 (.br 9 (.br 10 (.one 11 (.one 12 (.br 13 (.fin) (.stop)))) (.stop)) (.stop)) (.stop)) (.stop)) (.br 7 (.br 4 (.br 8 (.br 9 (.br 10 (.one 11 (.one 12 (.br 13 (.fin) (.stop)))) (.stop)) (.stop)) (.stop)) (.br 8 (.br 4 (.br 9 (.br 10 (.one 11 (.one 12 (.br 13 (.fin) (.stop)))) (.stop)) (.stop)) (.br 9 (.br 4 (.br 10 (.one 11 (.one 12 (.br 13 (.fin) (.stop)))) (.stop)) (.stop)) (.stop))) (.stop))) (.stop))) (.br 7 (.br 4 (.br 5 (.br 8 (.br 9 (.br 10 (.one 11 (.one 12 (.br 13 (.fin) (.stop)))) (.stop)) (.stop)) (.stop)) (.stop)) (.br 5 (.br 4 (.br 8 (.br 9 (.br 10 (.one 11 (.one 12 (.br 13 (.fin) (.stop)))) (.stop)) (.stop)) (.stop)) (.br 8 (.br 4 (.br 9 (.br 10 (.one 11 (.one 12 (.br 13 (.fin) (.stop)))) (.stop)) (.stop)) (.br 9 (.br 4 (.br 10 (.one 11 (.one 12 (.br 13 (.fin) (.stop)))) (.stop)) (.stop)) (.stop))) (.stop))) (.stop))) (.stop))))))))
/-! ### says -/
variable {hw : List Hw} {ex : Bool} {L : List Tk} {n : Int}
theorem rd3 {F : FuncId} {args : List AV} {r0 : AV} {x y : Blk} (h : ∀ A' : List Blk, 1 < A'.length → GivesW Tryd.prog F args ⟨A'.set 1 x, hw⟩ r0 ⟨A'.set 1 y, hw⟩) (z : Blk) (E : List Blk) : GivesW Tryd.prog F args ⟨z :: x :: E, hw⟩ r0 ⟨z :: y :: E, hw⟩ := h (z :: x :: E) (by simp)
theorem says_raw {z : Blk} {p : Pp} {k : Ks} (hk : KsOk hw p k) (hL : TkOk L) (r : Rs) (hr : r.i ≤ L.length) (hlr : p.rules.length ≤ 10000000) (hlg : p.grants.length ≤ 10000000) : ∃ (y : Blk) (k' : Ks) (hw' : List Hw), KsOk hw' (saysF L n r p).2 k' ∧ hw.length ≤ hw'.length ∧
    GivesW Tryd.prog 35 [.ptr 1 0, .ptr 2 0] ⟨[z, rdB ex L n r, polB p k], hw⟩ (.tup []) ⟨[z, rdB ex L n (saysF L n r p).1, polB (saysF L n r p).2 k', y], hw'⟩ := by
  have hlen := hL.len
  have c1 := rd3 (fun A' hb' => next_gives (A := A') (hw := hw) (ex := ex) (n := n) hb' hL r 0 (by omega)) z [polB p k]
  have c2 := rd3 (fun A' hb' => must_gives (A := A') (hw := hw) (ex := ex) (n := n) hb' hL.len (nextR L n r 0) kSays) z [polB p k]
  have hi1 := next_i (L := L) (n := n) (r := r) (s := 0)
  have hi2 := must_i (L := L) (n := n) (r := nextR L n r 0) (s := kSays)
  unfold saysF
  dsimp only
  generalize nextS L r 0 = who at *
  generalize nextR L n r 0 = r0 at *
  generalize mustT L n r0 kSays = r1 at *
  have ws := wrap_succ (show r1.i ≤ 1000000000 by omega)
  cases hc : canT L r1 with
  | true =>
    rw [if_pos rfl]
    have c3 := rd3 (fun A' hb' => next_gives (A := A') (hw := hw) (ex := ex) (n := n) hb' hL r1 0 (by omega)) z [polB p k]
    have hi3 := next_i (L := L) (n := n) (r := r1) (s := 0)
    have hi4 := must_i (L := L) (n := n) (r := nextR L n r1 0) (s := kCan)
    generalize nextS L r1 0 = tw at *
    generalize nextR L n r1 0 = r2 at *
    have c4 := rd3 (fun A' hb' => must_gives (A := A') (hw := hw) (ex := ex) (n := n) hb' hL.len r2 kCan) z [polB p k, ⟨false, [sA tw, sA ⟨#[]⟩, sA ⟨#[]⟩, iA 0, bA false, sA ⟨#[]⟩, bA false, sA ⟨#[]⟩, bA false, sA ⟨#[]⟩, bA false, sA ⟨#[]⟩, .c (.sl true 0 [])]⟩]
    generalize mustT L n r2 kCan = r3 at *
    have c5 := rd3 (fun A' hb' => said_gives (A := A') (hw := hw) (ex := ex) (n := n) hb' hL r3 who) z [polB p k, ⟨false, [sA tw, sA ⟨#[]⟩, sA ⟨#[]⟩, iA 0, bA false, sA ⟨#[]⟩, bA false, sA ⟨#[]⟩, bA false, sA ⟨#[]⟩, bA false, sA ⟨#[]⟩, .c (.sl true 0 [])]⟩]
    have hi5 := said_i (L := L) (n := n) (r := r3) (s := who)
    generalize saidF L n r3 who = q at *
    obtain ⟨r4, a⟩ := q
    dsimp only at *
    have c6 := rd3 (fun A' hb' => body_gives (A := A') (hw := hw) (ex := ex) (n := n) hb' hL r4 (by omega)) z [polB p k, ⟨false, [sA tw, .c (.v (.string a.says)), .c (.v (.string a.pred)), .c (.v (.int .i64 a.n)), .c (.v (.bool a.a0.v)), .c (.v (.string a.a0.name)), .c (.v (.bool a.a1.v)), .c (.v (.string a.a1.name)), .c (.v (.bool a.a2.v)), .c (.v (.string a.a2.name)), .c (.v (.bool a.a3.v)), .c (.v (.string a.a3.name)), .c (.sl true 0 [])]⟩]
    generalize bodyF L n r4 = q at *
    obtain ⟨r5, B⟩ := q
    dsimp only at *
    have ap := fun hp => apGr tw a B hk.h5 hlg hp
    have b1 := bldGr tw a B
    have pc := plain1_col stC k.k1 p.prin
    have ac := avCells_col grC (apK hw k.k5 p.grants) (p.grants ++ [⟨tw, a, B.isEmpty, B⟩])
    refine ⟨⟨false, [sA tw, .c (.v (.string a.says)), .c (.v (.string a.pred)), .c (.v (.int .i64 a.n)), .c (.v (.bool a.a0.v)), .c (.v (.string a.a0.name)), .c (.v (.bool a.a1.v)), .c (.v (.string a.a1.name)), .c (.v (.bool a.a2.v)), .c (.v (.string a.a2.name)), .c (.v (.bool a.a3.v)), .c (.v (.string a.a3.name)), .c (.sl B.isEmpty B.length (B.flatMap atC))]⟩, { k with k5 := apK hw k.k5 p.grants }, apH hw k.k5 48 13 p.grants, hk.grants _, apH_len _ _ _ _ _, ?_⟩
    refine givesW_of' Tryd.func35 rfl (by kernel_rfl) Tryd.ntmps35 rfl rfl fun Q hQ => ?_
    refine tr_low fun hW => ?_
    have hWk : ∀ x : Rs, lowB 3 hw.length [z, rdB ex L n x, polB p k] = true := fun x => hW
    repeat (first | refine tr_seq_k fun _ _ => ?_ | (refine tr_region ?_; simp only [go_sem, reduceCtorEq, Nat.reduceEqDiff, Nat.reduceLT, Nat.reduceLeDiff, Nat.reduceAdd, Nat.reduceMul, Nat.reduceSub, Nat.reduceBEq, ↓reduceIte]) | (refine call_givesW (c1) ?_; (try dsimp only); (try simp only [go_sem, reduceCtorEq, Nat.reduceEqDiff, Nat.reduceLT, Nat.reduceLeDiff, Nat.reduceAdd, Nat.reduceMul, Nat.reduceSub, Nat.reduceBEq, ↓reduceIte])) | (refine call_givesW (c2) ?_; (try dsimp only); (try simp only [go_sem, reduceCtorEq, Nat.reduceEqDiff, Nat.reduceLT, Nat.reduceLeDiff, Nat.reduceAdd, Nat.reduceMul, Nat.reduceSub, Nat.reduceBEq, ↓reduceIte])) | refine k_of (by assumption) ?_)
    refine tr_meet_k (σ := Unit) (fun _ => [(0, .ptr 1 0), (1, .ptr 2 0), (4, sA who), (43, bA true)]) (fun _ => ⟨[z, rdB ex L n r1, polB p k], hw⟩) (fun _ => True) (fun K hK => ?_) (fun _ _ => ?_)
    · cases d1 : decide (r1.e = 0) with
      | false =>
        unfold canT at hc
        rw [d1] at hc
        cases hc
      | true =>
        by_cases hj : r1.i + 1 < L.length
        · have ix := idxTk (ex := ex) hj
          have hx : canT L r1 = decide (L[r1.i + 1].text = kCan) := by unfold canT; rw [d1, List.getElem?_eq_getElem hj]; rfl
          rw [hc] at hx
          have d2 : decide (((r1.i + 1 : Nat) : Int) < (L.length : Nat)) = true := decide_eq_true (by omega)
          generalize L[r1.i + 1] = t at *
          repeat ((refine tr_drawC (id := 2) follows 10000 (by kernel_rfl) ?_; simp only [go_sem, reduceCtorEq, Nat.reduceEqDiff, Nat.reduceLT, Nat.reduceLeDiff, Nat.reduceAdd, Nat.reduceMul, Nat.reduceSub, Nat.reduceBEq, ↓reduceIte, d1, d2, ix, ws, ← hx]))
          exact hK () _ _ trivial ⟨⟨rfl, rfl, rfl, rfl, trivial⟩, Keep.refl _, rfl, hWk _, Nat.le_refl _, Nat.le_refl _⟩
        · unfold canT at hc
          rw [d1, List.getElem?_eq_none (by omega)] at hc
          cases hc
    refine k_of (by assumption) ?_
    skip
    refine tr_cond rfl (fun ht => ?_) (fun hf => ?_)
    · repeat (first | refine tr_seq_k fun _ _ => ?_ | (refine tr_region ?_; simp only [go_sem, reduceCtorEq, Nat.reduceEqDiff, Nat.reduceLT, Nat.reduceLeDiff, Nat.reduceAdd, Nat.reduceMul, Nat.reduceSub, Nat.reduceBEq, ↓reduceIte, one_max, pc, ap, b1, ac]) | (refine tr_draw (id := 7) follows 10 [6, 7, 10] [0, 1, 2, 3, 4, 5, 6, 7, 8, 9, 10] (by kernel_rfl) ?_; simp only [go_sem, reduceCtorEq, Nat.reduceEqDiff, Nat.reduceLT, Nat.reduceLeDiff, Nat.reduceAdd, Nat.reduceMul, Nat.reduceSub, Nat.reduceBEq, ↓reduceIte, one_max, pc, ap, b1, ac]) | (refine call_givesW (c3) ?_; (try dsimp only); (try simp only [go_sem, reduceCtorEq, Nat.reduceEqDiff, Nat.reduceLT, Nat.reduceLeDiff, Nat.reduceAdd, Nat.reduceMul, Nat.reduceSub, Nat.reduceBEq, ↓reduceIte, one_max, pc, ap, b1, ac])) | (refine call_givesW (c4) ?_; (try dsimp only); (try simp only [go_sem, reduceCtorEq, Nat.reduceEqDiff, Nat.reduceLT, Nat.reduceLeDiff, Nat.reduceAdd, Nat.reduceMul, Nat.reduceSub, Nat.reduceBEq, ↓reduceIte, one_max, pc, ap, b1, ac])) | (refine call_givesW (c5) ?_; (try dsimp only); (try simp only [go_sem, reduceCtorEq, Nat.reduceEqDiff, Nat.reduceLT, Nat.reduceLeDiff, Nat.reduceAdd, Nat.reduceMul, Nat.reduceSub, Nat.reduceBEq, ↓reduceIte, one_max, pc, ap, b1, ac])) | (refine call_givesW (c6) ?_; (try dsimp only); (try simp only [go_sem, reduceCtorEq, Nat.reduceEqDiff, Nat.reduceLT, Nat.reduceLeDiff, Nat.reduceAdd, Nat.reduceMul, Nat.reduceSub, Nat.reduceBEq, ↓reduceIte, one_max, pc, ap, b1, ac])) | refine k_of (by assumption) ?_ | (refine tr_ret ?_; try simp only [ex_seq_ret, ex_block_ret]))
      exact (hQ _ _ [] rfl rfl rfl).2
    · cases hf
  | false =>
    rw [if_neg Bool.false_ne_true]
    have c5 := rd3 (fun A' hb' => said_gives (A := A') (hw := hw) (ex := ex) (n := n) hb' hL r1 who) z [polB p k]
    have hi5 := said_i (L := L) (n := n) (r := r1) (s := who)
    generalize saidF L n r1 who = q at *
    obtain ⟨r4, a⟩ := q
    dsimp only at *
    have c6 := rd3 (fun A' hb' => body_gives (A := A') (hw := hw) (ex := ex) (n := n) hb' hL r4 (by omega)) z [polB p k, ⟨false, ([.c (.v (.string a.says)), .c (.v (.string a.pred)), .c (.v (.int .i64 a.n)), .c (.v (.bool a.a0.v)), .c (.v (.string a.a0.name)), .c (.v (.bool a.a1.v)), .c (.v (.string a.a1.name)), .c (.v (.bool a.a2.v)), .c (.v (.string a.a2.name)), .c (.v (.bool a.a3.v)), .c (.v (.string a.a3.name))] : List AV)⟩]
    generalize bodyF L n r4 = q at *
    obtain ⟨r5, B⟩ := q
    dsimp only at *
    have ap := fun hp => apRu a B hk.h4 hlr hp
    have b1 := bldRu a B
    have pc := plain1_col stC k.k1 p.prin
    have ac := avCells_col ruC (apK hw k.k4 p.rules) (p.rules ++ [⟨a, B.isEmpty, B⟩])
    refine ⟨⟨false, ([.c (.v (.string a.says)), .c (.v (.string a.pred)), .c (.v (.int .i64 a.n)), .c (.v (.bool a.a0.v)), .c (.v (.string a.a0.name)), .c (.v (.bool a.a1.v)), .c (.v (.string a.a1.name)), .c (.v (.bool a.a2.v)), .c (.v (.string a.a2.name)), .c (.v (.bool a.a3.v)), .c (.v (.string a.a3.name))] : List AV)⟩, { k with k4 := apK hw k.k4 p.rules }, apH hw k.k4 45 12 p.rules, hk.rules _, apH_len _ _ _ _ _, ?_⟩
    refine givesW_of' Tryd.func35 rfl (by kernel_rfl) Tryd.ntmps35 rfl rfl fun Q hQ => ?_
    refine tr_low fun hW => ?_
    have hWk : ∀ x : Rs, lowB 3 hw.length [z, rdB ex L n x, polB p k] = true := fun x => hW
    repeat (first | refine tr_seq_k fun _ _ => ?_ | (refine tr_region ?_; simp only [go_sem, reduceCtorEq, Nat.reduceEqDiff, Nat.reduceLT, Nat.reduceLeDiff, Nat.reduceAdd, Nat.reduceMul, Nat.reduceSub, Nat.reduceBEq, ↓reduceIte]) | (refine call_givesW (c1) ?_; (try dsimp only); (try simp only [go_sem, reduceCtorEq, Nat.reduceEqDiff, Nat.reduceLT, Nat.reduceLeDiff, Nat.reduceAdd, Nat.reduceMul, Nat.reduceSub, Nat.reduceBEq, ↓reduceIte])) | (refine call_givesW (c2) ?_; (try dsimp only); (try simp only [go_sem, reduceCtorEq, Nat.reduceEqDiff, Nat.reduceLT, Nat.reduceLeDiff, Nat.reduceAdd, Nat.reduceMul, Nat.reduceSub, Nat.reduceBEq, ↓reduceIte])) | refine k_of (by assumption) ?_)
    refine tr_meet_k (σ := Unit) (fun _ => [(0, .ptr 1 0), (1, .ptr 2 0), (4, sA who), (43, bA false)]) (fun _ => ⟨[z, rdB ex L n r1, polB p k], hw⟩) (fun _ => True) (fun K hK => ?_) (fun _ _ => ?_)
    · cases d1 : decide (r1.e = 0) with
      | false =>
        repeat ((refine tr_drawC (id := 2) follows 10000 (by kernel_rfl) ?_; simp only [go_sem, reduceCtorEq, Nat.reduceEqDiff, Nat.reduceLT, Nat.reduceLeDiff, Nat.reduceAdd, Nat.reduceMul, Nat.reduceSub, Nat.reduceBEq, ↓reduceIte, d1]))
        exact hK () _ _ trivial ⟨⟨rfl, rfl, rfl, rfl, trivial⟩, Keep.refl _, rfl, hWk _, Nat.le_refl _, Nat.le_refl _⟩
      | true =>
        by_cases hj : r1.i + 1 < L.length
        · have ix := idxTk (ex := ex) hj
          have hx : canT L r1 = decide (L[r1.i + 1].text = kCan) := by unfold canT; rw [d1, List.getElem?_eq_getElem hj]; rfl
          rw [hc] at hx
          have d2 : decide (((r1.i + 1 : Nat) : Int) < (L.length : Nat)) = true := decide_eq_true (by omega)
          generalize L[r1.i + 1] = t at *
          repeat ((refine tr_drawC (id := 2) follows 10000 (by kernel_rfl) ?_; simp only [go_sem, reduceCtorEq, Nat.reduceEqDiff, Nat.reduceLT, Nat.reduceLeDiff, Nat.reduceAdd, Nat.reduceMul, Nat.reduceSub, Nat.reduceBEq, ↓reduceIte, d1, d2, ix, ws, ← hx]))
          exact hK () _ _ trivial ⟨⟨rfl, rfl, rfl, rfl, trivial⟩, Keep.refl _, rfl, hWk _, Nat.le_refl _, Nat.le_refl _⟩
        · have d2 : decide (((r1.i + 1 : Nat) : Int) < (L.length : Nat)) = false := decide_eq_false (by omega)
          repeat ((refine tr_drawC (id := 2) follows 10000 (by kernel_rfl) ?_; simp only [go_sem, reduceCtorEq, Nat.reduceEqDiff, Nat.reduceLT, Nat.reduceLeDiff, Nat.reduceAdd, Nat.reduceMul, Nat.reduceSub, Nat.reduceBEq, ↓reduceIte, d1, d2, ws]))
          exact hK () _ _ trivial ⟨⟨rfl, rfl, rfl, rfl, trivial⟩, Keep.refl _, rfl, hWk _, Nat.le_refl _, Nat.le_refl _⟩
    refine k_of (by assumption) ?_
    skip
    refine tr_cond rfl (fun ht => ?_) (fun hf => ?_)
    · cases ht
    · repeat (first | refine tr_seq_k fun _ _ => ?_ | (refine tr_region ?_; simp only [go_sem, reduceCtorEq, Nat.reduceEqDiff, Nat.reduceLT, Nat.reduceLeDiff, Nat.reduceAdd, Nat.reduceMul, Nat.reduceSub, Nat.reduceBEq, ↓reduceIte]) | (refine call_givesW (c5) ?_; (try dsimp only); (try simp only [go_sem, reduceCtorEq, Nat.reduceEqDiff, Nat.reduceLT, Nat.reduceLeDiff, Nat.reduceAdd, Nat.reduceMul, Nat.reduceSub, Nat.reduceBEq, ↓reduceIte])) | refine k_of (by assumption) ?_ | (refine tr_skip ?_; try simp only [ex_seq, ex_block]))
      refine tr_drawX (id := 9) follows otSays (by kernel_rfl) [] ⟨[z, rdB ex L n r5, polB { p with rules := p.rules ++ [⟨a, B.isEmpty, B⟩] } { k with k4 := apK hw k.k4 p.rules }, ⟨false, ([.c (.v (.string a.says)), .c (.v (.string a.pred)), .c (.v (.int .i64 a.n)), .c (.v (.bool a.a0.v)), .c (.v (.string a.a0.name)), .c (.v (.bool a.a1.v)), .c (.v (.string a.a1.name)), .c (.v (.bool a.a2.v)), .c (.v (.string a.a2.name)), .c (.v (.bool a.a3.v)), .c (.v (.string a.a3.name))] : List AV)⟩], apH hw k.k4 45 12 p.rules⟩ ?_ ?_
      · unfold otSays
        simp only [go_sem, reduceCtorEq, Nat.reduceEqDiff, Nat.reduceLT, Nat.reduceLeDiff, Nat.reduceAdd, Nat.reduceMul, Nat.reduceSub, Nat.reduceBEq, ↓reduceIte, one_max, pc, ap, b1, ac]
        repeat' (first | (refine call_givesW (c6) ?_; (try dsimp only); (try simp only [go_sem, reduceCtorEq, Nat.reduceEqDiff, Nat.reduceLT, Nat.reduceLeDiff, Nat.reduceAdd, Nat.reduceMul, Nat.reduceSub, Nat.reduceBEq, ↓reduceIte, one_max, pc, ap, b1, ac])) | refine And.intro ?_ ?_ | rfl)
      · exact (hQ _ _ [] rfl rfl rfl).1
end Go.Proofs.YtaeehadibckcjaaDoor
namespace Go.Proofs.YtaeehadibckcjaaDoor
open Go.RowKit Go.Vs Go.Vs.Ab
set_option maxRecDepth 100000
set_option maxHeartbeats 4000000
variable {hw : List Hw} {ex : Bool} {L : List Tk} {n : Int}
theorem says_gives {z : Blk} {p : Pp} {k : Ks} (hk : KsOk hw p k) (hL : TkOk L) (r : Rs) (hr : r.i ≤ L.length) (hlr : p.rules.length ≤ 10000000) (hlg : p.grants.length ≤ 10000000) : ∃ (k' : Ks) (hw' : List Hw), KsOk hw' (saysF L n r p).2 k' ∧ hw.length ≤ hw'.length ∧
    GivesW Tryd.prog 35 [.ptr 1 0, .ptr 2 0] ⟨[z, rdB ex L n r, polB p k], hw⟩ (.tup []) ⟨[z, rdB ex L n (saysF L n r p).1, polB (saysF L n r p).2 k'], hw'⟩ := by
  obtain ⟨y, k', hw', h1, h2, h3⟩ := says_raw (z := z) (ex := ex) (n := n) hk hL r hr hlr hlg
  refine ⟨k', hw', h1, h2, h3.trim ⟨⟨[y], rfl⟩, ⟨[], (List.append_nil _).symm⟩⟩ (fun hl => ?_) (Nat.le_refl _) h2 cut_nil⟩
  simp only [lowB, Bool.and_eq_true] at hl ⊢
  exact ⟨lows_up (Nat.le_refl _) h2 hl.1, rfl, ksOk_low h1 _, trivial⟩
theorem must_ok {L : List Tk} {n : Int} {r : Rs} {s : ByteArray} (h : (mustT L n r s).e = 0) : isT L r s = true ∧ (mustT L n r s).i = r.i + 1 := by
  unfold mustT at *
  split at h
  · rename_i hc
    rw [if_pos hc]
    exact ⟨hc, rfl⟩
  · exfalso
    unfold Rs.fail at h
    split at h
    · cases h
    · rename_i hne
      exact hne h
theorem once_i {L : List Tk} {n : Int} {r : Rs} {b : Bool} : (onceR L n r b).i = r.i := by
  unfold onceR
  split
  · exact fail_i _ _ _ _ _
  · rfl
theorem says_i {L : List Tk} {n : Int} {r : Rs} {p : Pp} : r.i ≤ (saysF L n r p).1.i ∧ (r.i ≤ L.length → (saysF L n r p).1.i ≤ L.length) := by
  obtain ⟨h1, h2⟩ := next_i (L := L) (n := n) (r := r) (s := 0)
  obtain ⟨h3, h4⟩ := must_i (L := L) (n := n) (r := nextR L n r 0) (s := kSays)
  unfold saysF
  dsimp only
  split
  · obtain ⟨h5, h6⟩ := next_i (L := L) (n := n) (r := mustT L n (nextR L n r 0) kSays) (s := 0)
    obtain ⟨h7, h8⟩ := must_i (L := L) (n := n) (r := nextR L n (mustT L n (nextR L n r 0) kSays) 0) (s := kCan)
    obtain ⟨h9, h10⟩ := said_i (L := L) (n := n) (r := mustT L n (nextR L n (mustT L n (nextR L n r 0) kSays) 0) kCan) (s := nextS L r 0)
    obtain ⟨h11, h12⟩ := body_i (L := L) (n := n) (r := (saidF L n (mustT L n (nextR L n (mustT L n (nextR L n r 0) kSays) 0) kCan) (nextS L r 0)).1)
    dsimp only
    exact ⟨by omega, fun h => h12 (h10 (h8 (h6 (h4 (h2 h)))))⟩
  · obtain ⟨h9, h10⟩ := said_i (L := L) (n := n) (r := mustT L n (nextR L n r 0) kSays) (s := nextS L r 0)
    obtain ⟨h11, h12⟩ := body_i (L := L) (n := n) (r := (saidF L n (mustT L n (nextR L n r 0) kSays) (nextS L r 0)).1)
    dsimp only
    exact ⟨by omega, fun h => h12 (h10 (h4 (h2 h)))⟩
theorem says_len {L : List Tk} {n : Int} {r : Rs} {p : Pp} : (saysF L n r p).2.prin = p.prin ∧ (saysF L n r p).2.preds = p.preds ∧ (saysF L n r p).2.clears = p.clears ∧ (saysF L n r p).2.rules.length ≤ p.rules.length + 1 ∧ (saysF L n r p).2.grants.length ≤ p.grants.length + 1 := by
  unfold saysF
  dsimp only
  split
  · exact ⟨rfl, rfl, rfl, Nat.le_succ _, by simp⟩
  · exact ⟨rfl, rfl, rfl, by simp, Nat.le_succ _⟩
theorem polL_succ (L : List Tk) (n : Int) (f : Nat) (s : Pst) : polL L n (f + 1) s = if s.r.e = 0 ∧ s.r.i < L.length then polL L n f (stepF L n s) else s := rfl
theorem polL_end (L : List Tk) (n : Int) (f : Nat) (s : Pst) (h : ¬ (s.r.e = 0 ∧ s.r.i < L.length)) : polL L n f s = s := by
  cases f with
  | zero => rfl
  | succ f => rw [polL_succ, if_neg h]
theorem toks_text (s : ByteArray) : ∀ (f i : Nat) (out : List Tk), (∀ t ∈ out, t.text.size ≤ 1000000) → ∀ t ∈ (toksF s f i out).1, t.text.size ≤ 1000000
  | 0, i, out, h => h
  | f + 1, i, out, h => by
    rw [toksF_succ]
    split
    · rename_i hi
      split
      · exact h
      · rename_i he
        refine toks_text s f _ _ fun t ht => ?_
        rw [List.mem_append, List.mem_singleton] at ht
        rcases ht with ht | rfl
        · exact h t ht
        · have := tokAt_size hi (by simpa using he)
          omega
    · exact h
theorem tkOk_all (s : ByteArray) : TkOk (toksAll s).1 := by
  have h1 := toks_len s
  have h2 : ∀ t ∈ (toks s).1, t.text.size ≤ 1000000 := by
    unfold toks
    split
    · intro t ht; cases ht
    · exact toks_text s _ _ _ (fun t ht => by cases ht)
  unfold toksAll
  split
  · exact ⟨Nat.zero_le _, fun t ht => by cases ht⟩
  · exact ⟨by dsimp only; omega, h2⟩
theorem apS1 {hw : List Hw} {k : Nat} {l : List ByteArray} (x : ByteArray) (hI : ColIs hw k 9 1 l) (hl : l.length ≤ 10000000) (hp : List Blk) : aAppend Tryd.prog ⟨hp, hw⟩ 23 (colA stC k l) (.c (.sl true 1 [.v (.string x)])) = some (colA stC (apK hw k l) (l ++ [x]), ⟨hp, apH hw k 9 1 l⟩) :=
  app_gen (P := Tryd.prog) stC (x := x) (fun _ => rfl) Tryd.underlying23 info_s hI (ml hl) (by omega) hp
theorem apPd {hw : List Hw} {k : Nat} {l : List Prd} (x : ByteArray) (m : Int) (hI : ColIs hw k 69 2 l) (hl : l.length ≤ 10000000) (hp : List Blk) : aAppend Tryd.prog ⟨hp, hw⟩ 24 (colA prC k l) (.c (.sl true 1 [.v (.string x), .v (.int .i64 m)])) = some (colA prC (apK hw k l) (l ++ [⟨x, m⟩]), ⟨hp, apH hw k 69 2 l⟩) :=
  app_gen (P := Tryd.prog) prC (x := ⟨x, m⟩) (fun _ => rfl) Tryd.underlying24 info_pr hI (ml hl) (by omega) hp
theorem apCl {hw : List Hw} {k : Nat} {l : List Clr} (x : ByteArray) (B : List ByteArray) (hI : ColIs hw k 54 2 l) (hl : l.length ≤ 10000000) (hp : List Blk) : aAppend Tryd.prog ⟨hp, hw⟩ 25 (colA clC k l) (.c (.sl true 1 [.v (.string x), .sl B.isEmpty B.length (B.flatMap stC)])) = some (colA clC (apK hw k l) (l ++ [⟨x, B.isEmpty, B⟩]), ⟨hp, apH hw k 54 2 l⟩) :=
  app_gen (P := Tryd.prog) clC (x := ⟨x, B.isEmpty, B⟩) (fun _ => rfl) Tryd.underlying25 info_cl hI (ml hl) (by omega) hp
theorem bldPd (x : ByteArray) (m : Int) : aBuildSlice Tryd.prog 24 1 [(0, .agg [.v (.string x), .v (.int .i64 m)])] = some [.v (.string x), .v (.int .i64 m)] := build1 Tryd.underlying24 sz69 ze69 (by decide) (by decide) (by decide) rfl rfl
theorem bldCl (x : ByteArray) (B : List ByteArray) : aBuildSlice Tryd.prog 25 1 [(0, .agg [.v (.string x), .sl B.isEmpty B.length (B.flatMap stC)])] = some [.v (.string x), .sl B.isEmpty B.length (B.flatMap stC)] := build1 Tryd.underlying25 sz54 ze54 (by decide) (by decide) (by decide) rfl rfl
def otP1 : OT := .one 0 (.one 2 (.br 1 (.br 3 (.br 4 (.br 5 (.one 6 (.br 7 (.fin) (.stop))) (.stop)) (.stop)) (.stop)) (.br 3 (.br 1 (.br 4 (.br 5 (.one 6 (.br 7 (.fin) (.stop))) (.stop)) (.stop)) (.br 4 (.br 1 (.br 5 (.one 6 (.br 7 (.fin) (.stop))) (.stop)) (.stop)) (.stop))) (.stop))))
def otP3 : OT := .one 0 (.one 2 (.br 1 (.br 3 (.br 4 (.br 5 (.one 6 (.br 7 (.fin) (.stop))) (.stop)) (.stop)) (.stop)) (.br 3 (.br 1 (.br 4 (.br 5 (.one 6 (.br 7 (.fin) (.stop))) (.stop)) (.stop)) (.br 4 (.br 1 (.br 5 (.one 6 (.br 7 (.fin) (.stop))) (.stop)) (.stop)) (.stop))) (.stop))))
def otP9 : OT := .one 1 (.one 2 (.one 3 (.one 5 (.one 6 (.one 7 (.br 0 (.br 4 (.br 8 (.br 9 (.one 10 (.one 11 (.fin))) (.stop)) (.br 9 (.one 10 (.br 8 (.one 11 (.fin)) (.stop))) (.stop))) (.br 8 (.br 4 (.br 9 (.one 10 (.one 11 (.fin))) (.stop)) (.br 9 (.br 4 (.one 10 (.one 11 (.fin))) (.stop)) (.stop))) (.br 9 (.br 4 (.one 10 (.br 8 (.one 11 (.fin)) (.stop))) (.br 8 (.br 4 (.one 10 (.one 11 (.fin))) (.stop)) (.stop))) (.stop)))) (.br 4 (.br 0 (.br 8 (.br 9 (.one 10 (.one 11 (.fin))) (.stop)) (.br 9 (.one 10 (.br 8 (.one 11 (.fin)) (.stop))) (.stop))) (.br 8 (.br 0 (.br 9 (.one 10 (.one 11 (.fin))) (.stop)) (.stop)) (.stop))) (.br 8 (.br 0 (.br 4 (.br 9 (.one 10 (.one 11 (.fin))) (.stop)) (.br 9 (.br 4 (.one 10 (.one 11 (.fin))) (.stop)) (.stop))) (.br 4 (.br 0 (.br 9 (.one 10 (.one 11 (.fin))) (.stop)) (.stop)) (.stop))) (.stop)))))))))
theorem parsePol_does (s : ByteArray) (hz : s.size ≤ 1000000000) : Does Tryd.prog 9 [sA s] (fun m => (.tup [poA (polParse s).1, iA (polParse s).2.1, iA (polParse s).2.2], m)) := by
  have cA := allK_does s
  have hL := tkOk_all s
  obtain ⟨P, hP⟩ : ∃ P, P = polParse s := ⟨_, rfl⟩
  rw [← hP]
  unfold polParse at hP
  generalize toksAll s = q at *
  obtain ⟨L, pos, e⟩ := q
  dsimp only at *
  cases d0 : decide (e = 0) with
  | false =>
    rw [if_pos (of_decide_eq_false d0)] at hP
    rw [hP]
    refine does_of' Tryd.func9 rfl (by kernel_rfl) rfl Tryd.ntmps9 rfl rfl fun Q hQ => ?_
    repeat (first | refine tr_seq_k fun _ _ => ?_ | (refine tr_region ?_; simp only [go_sem, reduceCtorEq, Nat.reduceEqDiff, Nat.reduceLT, Nat.reduceLeDiff, Nat.reduceAdd, Nat.reduceMul, Nat.reduceSub, Nat.reduceBEq, ↓reduceIte, d0]) | (refine call_of (cA) ?_ ?_; (first | rfl | simp only [go_sem, reduceCtorEq, Nat.reduceEqDiff, Nat.reduceLT, Nat.reduceLeDiff, Nat.reduceAdd, Nat.reduceMul, Nat.reduceSub, Nat.reduceBEq, ↓reduceIte, d0, shut_col]); simp only [go_sem, reduceCtorEq, Nat.reduceEqDiff, Nat.reduceLT, Nat.reduceLeDiff, Nat.reduceAdd, Nat.reduceMul, Nat.reduceSub, Nat.reduceBEq, ↓reduceIte, d0]) | refine k_of (by assumption) ?_)
    refine tr_cond rfl (fun ht => ?_) (fun hf => ?_)
    · repeat (first | refine tr_seq_k fun _ _ => ?_ | (refine tr_region ?_; simp only [go_sem, reduceCtorEq, Nat.reduceEqDiff, Nat.reduceLT, Nat.reduceLeDiff, Nat.reduceAdd, Nat.reduceMul, Nat.reduceSub, Nat.reduceBEq, ↓reduceIte]) | refine k_of (by assumption) ?_ | (refine tr_ret ?_; try simp only [ex_seq_ret, ex_block_ret]))
      refine (hQ _ _ [.agg [.sl true 0 [], .sl true 0 [], .sl true 0 [], .v (.int .i64 0), .v (.int .i64 0), .sl true 0 [], .sl true 0 []], iA pos, iA e] ?_ (fun m => rfl)).2 <;> simp only [go_sem, reduceCtorEq, Nat.reduceEqDiff, Nat.reduceLT, Nat.reduceLeDiff, Nat.reduceAdd, Nat.reduceMul, Nat.reduceSub, Nat.reduceBEq, ↓reduceIte, Tryd.f9]
    · cases hf
  | true =>
    have he0 := of_decide_eq_true d0
    rw [if_neg (by rw [he0]; exact fun h => h rfl)] at hP
    obtain ⟨T, hT⟩ : ∃ T, T = polS L s.size := ⟨_, rfl⟩
    rw [← hT] at hP
    unfold polS at hT
    obtain ⟨n, hn⟩ : ∃ n : Int, n = s.size := ⟨_, rfl⟩
    obtain ⟨ex, hex⟩ : ∃ ex, ex = L.isEmpty := ⟨_, rfl⟩
    rw [← hn] at hT
    rw [← hex] at cA
    have hlen := hL.len
    refine does_of' Tryd.func9 rfl (by kernel_rfl) rfl Tryd.ntmps9 rfl rfl fun Q hQ => ?_
    repeat (first | refine tr_seq_k fun _ _ => ?_ | (refine tr_region ?_; simp only [go_sem, reduceCtorEq, Nat.reduceEqDiff, Nat.reduceLT, Nat.reduceLeDiff, Nat.reduceAdd, Nat.reduceMul, Nat.reduceSub, Nat.reduceBEq, ↓reduceIte, d0, ← hn]) | (refine call_of (cA) ?_ ?_; (first | rfl | simp only [go_sem, reduceCtorEq, Nat.reduceEqDiff, Nat.reduceLT, Nat.reduceLeDiff, Nat.reduceAdd, Nat.reduceMul, Nat.reduceSub, Nat.reduceBEq, ↓reduceIte, d0, ← hn, shut_col]); simp only [go_sem, reduceCtorEq, Nat.reduceEqDiff, Nat.reduceLT, Nat.reduceLeDiff, Nat.reduceAdd, Nat.reduceMul, Nat.reduceSub, Nat.reduceBEq, ↓reduceIte, d0, ← hn]) | refine k_of (by assumption) ?_)
    refine tr_cond rfl (fun ht => ?_) (fun hf => ?_)
    · cases ht
    repeat (first | refine tr_seq_k fun _ _ => ?_ | (refine tr_region ?_; simp only [go_sem, reduceCtorEq, Nat.reduceEqDiff, Nat.reduceLT, Nat.reduceLeDiff, Nat.reduceAdd, Nat.reduceMul, Nat.reduceSub, Nat.reduceBEq, ↓reduceIte, ← hn]) | refine k_of (by assumption) ?_ | refine tr_block ?_ | (refine tr_skip ?_; try simp only [ex_seq, ex_block]))
    refine tr_loop_k (σ := Nat × Pst × Ks × List Hw) (fun q => [(2, .ptr 0 0), (5, .c (.sl ex L.length (L.flatMap tkC))), (8, .ptr 1 0), (9, .ptr 2 0), (10, bA q.2.1.wq), (11, bA q.2.1.wb)]) (fun q => ⟨[⟨false, [.c (.sl true 0 []), .c (.sl true 0 []), .c (.sl true 0 []), iA 0, iA 0, .c (.sl true 0 []), .c (.sl true 0 [])]⟩, rdB ex L n q.2.1.r, polB q.2.1.p q.2.2.1], q.2.2.2⟩)
      (fun q => polL L n q.1 q.2.1 = T ∧ (q.2.1.r.e = 0 → L.length < q.1 + q.2.1.r.i) ∧ q.2.1.r.i ≤ L.length ∧ KsOk q.2.2.2 q.2.1.p q.2.2.1 ∧ q.2.1.p.prin.length + q.1 ≤ L.length + 1 ∧ q.2.1.p.preds.length + q.1 ≤ L.length + 1 ∧ q.2.1.p.clears.length + q.1 ≤ L.length + 1 ∧ q.2.1.p.rules.length + q.1 ≤ L.length + 1 ∧ q.2.1.p.grants.length + q.1 ≤ L.length + 1) (fun q => q.1) (L.length + 1, ⟨⟨0, 0, 0⟩, pp0, false, false⟩, ⟨0, 0, 0, 0, 0⟩, [])
      ⟨hT.symm, fun _ => by dsimp only; omega, Nat.zero_le _, ⟨colIs_nil _ _ _ _, colIs_nil _ _ _ _, colIs_nil _ _ _ _, colIs_nil _ _ _ _, colIs_nil _ _ _ _⟩, by simp [pp0], by simp [pp0], by simp [pp0], by simp [pp0], by simp [pp0]⟩ ⟨rfl, rfl, rfl, rfl, rfl, rfl, trivial⟩ rfl ?_
    rintro ⟨f, ⟨r, p, wq, wb⟩, k, hw⟩ ⟨hS, hfi, hi, hk, b1, b2, b3, b4, b5⟩ K hK
    dsimp only at hS hfi hi hk b1 b2 b3 b4 b5 ⊢
    have e1 := clean_col stC k.k1 p.prin
    have e2 := clean_col prC k.k2 p.preds
    have e3 := clean_col clC k.k3 p.clears
    have e4 := clean_col ruC k.k4 p.rules
    have e5 := clean_col grC k.k5 p.grants
    cases d1 : decide (r.e = 0) with
    | false =>
      rw [polL_end _ _ _ _ (fun h => of_decide_eq_false d1 h.1)] at hS
      obtain rfl := hS
      dsimp only at hP
      repeat (first | refine tr_seq_k fun _ _ => ?_ | (refine tr_region ?_; simp only [go_sem, reduceCtorEq, Nat.reduceEqDiff, Nat.reduceLT, Nat.reduceLeDiff, Nat.reduceAdd, Nat.reduceMul, Nat.reduceSub, Nat.reduceBEq, ↓reduceIte, d1]) | refine k_of (by assumption) ?_)
      refine tr_cond rfl (fun ht => ?_) (fun hf => ?_)
      · cases ht
      · rw [if_pos (of_decide_eq_false d1)] at hP
        rw [hP] at hQ
        repeat (first | refine tr_seq_k fun _ _ => ?_ | (refine tr_region ?_; simp only [go_sem, reduceCtorEq, Nat.reduceEqDiff, Nat.reduceLT, Nat.reduceLeDiff, Nat.reduceAdd, Nat.reduceMul, Nat.reduceSub, Nat.reduceBEq, ↓reduceIte, d1]) | refine k_of (by assumption) ?_ | (refine tr_exit ?_; try simp only [ex_seq_exit, ex_block_exit, Nat.reduceEqDiff, if_true, if_false, ex_seq, ex_block, reduceCtorEq, ↓reduceIte]))
        refine tr_cond rfl (fun ht => ?_) (fun hf => ?_)
        · repeat (refine tr_seq_k fun _ _ => ?_)
          refine tr_drawX (id := 26) follows otP9 (by kernel_rfl) [(2, .ptr 0 0), (3, iA r.at_), (4, iA r.e)] ⟨[⟨false, [.c (.sl true 0 []), .c (.sl true 0 []), .c (.sl true 0 []), iA 0, iA 0, .c (.sl true 0 []), .c (.sl true 0 [])]⟩, rdB ex L n r, polB p k], hw⟩ ?_ ?_
          · unfold otP9
            simp only [go_sem, reduceCtorEq, Nat.reduceEqDiff, Nat.reduceLT, Nat.reduceLeDiff, Nat.reduceAdd, Nat.reduceMul, Nat.reduceSub, Nat.reduceBEq, ↓reduceIte]
            skip
          · repeat (first | refine k_of (by assumption) ?_ | (refine tr_ret ?_; try simp only [ex_seq_ret, ex_block_ret]))
            refine (hQ _ _ [.agg [.sl true 0 [], .sl true 0 [], .sl true 0 [], .v (.int .i64 0), .v (.int .i64 0), .sl true 0 [], .sl true 0 []], iA r.at_, iA r.e] ?_ (fun m => rfl)).2 <;> simp only [go_sem, reduceCtorEq, Nat.reduceEqDiff, Nat.reduceLT, Nat.reduceLeDiff, Nat.reduceAdd, Nat.reduceMul, Nat.reduceSub, Nat.reduceBEq, ↓reduceIte, Tryd.f9]
        · cases hf
    | true =>
      by_cases hil : r.i < L.length
      rotate_left
      · rw [polL_end _ _ _ _ (fun h => hil h.2)] at hS
        obtain rfl := hS
        dsimp only at hP
        have d2 : decide ((r.i : Int) < (L.length : Nat)) = false := decide_eq_false (by omega)
        repeat (first | refine tr_seq_k fun _ _ => ?_ | (refine tr_region ?_; simp only [go_sem, reduceCtorEq, Nat.reduceEqDiff, Nat.reduceLT, Nat.reduceLeDiff, Nat.reduceAdd, Nat.reduceMul, Nat.reduceSub, Nat.reduceBEq, ↓reduceIte, d1, d2]) | refine k_of (by assumption) ?_)
        refine tr_cond rfl (fun ht => ?_) (fun hf => ?_)
        · cases ht
        · rw [if_neg (fun h => h (of_decide_eq_true d1))] at hP
          rw [hP] at hQ
          repeat (first | refine tr_seq_k fun _ _ => ?_ | (refine tr_region ?_; simp only [go_sem, reduceCtorEq, Nat.reduceEqDiff, Nat.reduceLT, Nat.reduceLeDiff, Nat.reduceAdd, Nat.reduceMul, Nat.reduceSub, Nat.reduceBEq, ↓reduceIte, d1]) | refine k_of (by assumption) ?_ | (refine tr_exit ?_; try simp only [ex_seq_exit, ex_block_exit, Nat.reduceEqDiff, if_true, if_false, ex_seq, ex_block, reduceCtorEq, ↓reduceIte]))
          refine tr_cond rfl (fun ht => ?_) (fun hf => ?_)
          · cases ht
          · repeat (first | refine tr_seq_k fun _ _ => ?_ | (refine tr_region ?_; simp only [go_sem, reduceCtorEq, Nat.reduceEqDiff, Nat.reduceLT, Nat.reduceLeDiff, Nat.reduceAdd, Nat.reduceMul, Nat.reduceSub, Nat.reduceBEq, ↓reduceIte, e1, e2, e3, e4, e5]) | refine k_of (by assumption) ?_ | (refine tr_skip ?_; try simp only [ex_seq, ex_block]) | (refine tr_ret ?_; try simp only [ex_seq_ret, ex_block_ret]))
            refine (hQ _ _ [.agg [.sl p.prin.isEmpty p.prin.length (p.prin.flatMap stC), .sl p.preds.isEmpty p.preds.length (p.preds.flatMap prC), .sl p.clears.isEmpty p.clears.length (p.clears.flatMap clC), .v (.int .i64 p.quota), .v (.int .i64 p.budget), .sl p.rules.isEmpty p.rules.length (p.rules.flatMap ruC), .sl p.grants.isEmpty p.grants.length (p.grants.flatMap grC)], iA 0, iA 0] ?_ (fun m => rfl)).2 <;> simp only [go_sem, reduceCtorEq, Nat.reduceEqDiff, Nat.reduceLT, Nat.reduceLeDiff, Nat.reduceAdd, Nat.reduceMul, Nat.reduceSub, Nat.reduceBEq, ↓reduceIte, Tryd.f9]
      have d2 : decide ((r.i : Int) < (L.length : Nat)) = true := decide_eq_true (by omega)
      have hfi := hfi (of_decide_eq_true d1)
      obtain ⟨f, rfl⟩ : ∃ f', f = f' + 1 := ⟨f - 1, by omega⟩
      rw [polL_succ, if_pos ⟨of_decide_eq_true d1, hil⟩] at hS
      have cm0 := rd3 (fun A' hb' => maybe_gives (A := A') (hw := hw) (ex := ex) (n := n) hb' hL.len r kPrin) ⟨false, [.c (.sl true 0 []), .c (.sl true 0 []), .c (.sl true 0 []), iA 0, iA 0, .c (.sl true 0 []), .c (.sl true 0 [])]⟩ [polB p k]
      have cm1 := rd3 (fun A' hb' => maybe_gives (A := A') (hw := hw) (ex := ex) (n := n) hb' hL.len r kPred) ⟨false, [.c (.sl true 0 []), .c (.sl true 0 []), .c (.sl true 0 []), iA 0, iA 0, .c (.sl true 0 []), .c (.sl true 0 [])]⟩ [polB p k]
      have cm2 := rd3 (fun A' hb' => maybe_gives (A := A') (hw := hw) (ex := ex) (n := n) hb' hL.len r kClear) ⟨false, [.c (.sl true 0 []), .c (.sl true 0 []), .c (.sl true 0 []), iA 0, iA 0, .c (.sl true 0 []), .c (.sl true 0 [])]⟩ [polB p k]
      have cm3 := rd3 (fun A' hb' => maybe_gives (A := A') (hw := hw) (ex := ex) (n := n) hb' hL.len r kQuota) ⟨false, [.c (.sl true 0 []), .c (.sl true 0 []), .c (.sl true 0 []), iA 0, iA 0, .c (.sl true 0 []), .c (.sl true 0 [])]⟩ [polB p k]
      have cm4 := rd3 (fun A' hb' => maybe_gives (A := A') (hw := hw) (ex := ex) (n := n) hb' hL.len r kBudget) ⟨false, [.c (.sl true 0 []), .c (.sl true 0 []), .c (.sl true 0 []), iA 0, iA 0, .c (.sl true 0 []), .c (.sl true 0 [])]⟩ [polB p k]
      unfold maybeR at cm0 cm1 cm2 cm3 cm4
      repeat (first | refine tr_seq_k fun _ _ => ?_ | (refine tr_region ?_; simp only [go_sem, reduceCtorEq, Nat.reduceEqDiff, Nat.reduceLT, Nat.reduceLeDiff, Nat.reduceAdd, Nat.reduceMul, Nat.reduceSub, Nat.reduceBEq, ↓reduceIte, d1, d2]) | refine k_of (by assumption) ?_)
      refine tr_cond rfl (fun ht => ?_) (fun hf => ?_)
      rotate_left
      · cases hf
      cases h1 : isT L r kPrin with
      | true =>
        have hlt := (isT_lt h1).2
        rw [h1, if_pos rfl] at cm0
        have cN := rd3 (fun A' hb' => next_gives (A := A') (hw := hw) (ex := ex) (n := n) hb' hL r.adv 0 (by omega)) ⟨false, [.c (.sl true 0 []), .c (.sl true 0 []), .c (.sl true 0 []), iA 0, iA 0, .c (.sl true 0 []), .c (.sl true 0 [])]⟩ [polB p k]
        have hni := next_i (L := L) (n := n) (r := r.adv) (s := 0)
        have hadv : r.adv.i = r.i + 1 := rfl
        have hst : stepF L n ⟨r, p, wq, wb⟩ = ⟨mustT L n (nextR L n r.adv 0) kDot, { p with prin := p.prin ++ [nextS L r.adv 0] }, wq, wb⟩ := by
          unfold stepF armF
          dsimp only
          simp only [h1, if_true, if_false, Bool.false_eq_true]
        rw [hst] at hS
        generalize nextS L r.adv 0 = x at *
        generalize nextR L n r.adv 0 = r2 at *
        have ap := fun hp => apS1 x hk.h1 (by omega) hp
        have bx := build1T x
        have cD := rd3 (fun A' hb' => must_gives (A := A') (hw := (apH hw k.k1 9 1 p.prin)) (ex := ex) (n := n) hb' hL.len r2 kDot) ⟨false, [.c (.sl true 0 []), .c (.sl true 0 []), .c (.sl true 0 []), iA 0, iA 0, .c (.sl true 0 []), .c (.sl true 0 [])]⟩ [polB { p with prin := p.prin ++ [x] } { k with k1 := apK hw k.k1 p.prin }]
        repeat (first | refine tr_seq_k fun _ _ => ?_ | (refine tr_region ?_; simp only [go_sem, reduceCtorEq, Nat.reduceEqDiff, Nat.reduceLT, Nat.reduceLeDiff, Nat.reduceAdd, Nat.reduceMul, Nat.reduceSub, Nat.reduceBEq, ↓reduceIte]) | (refine call_givesW (cm0) ?_; (try dsimp only); (try simp only [go_sem, reduceCtorEq, Nat.reduceEqDiff, Nat.reduceLT, Nat.reduceLeDiff, Nat.reduceAdd, Nat.reduceMul, Nat.reduceSub, Nat.reduceBEq, ↓reduceIte])) | refine k_of (by assumption) ?_ | refine tr_block ?_ | (refine tr_skip ?_; try simp only [ex_seq, ex_block]))
        refine tr_cond rfl (fun ht => ?_) (fun hf => ?_)
        rotate_left
        · cases hf
        skip
        refine tr_drawX (id := 10) follows otP1 (by kernel_rfl) [(2, .ptr 0 0), (5, .c (.sl ex L.length (L.flatMap tkC))), (8, .ptr 1 0), (9, .ptr 2 0), (10, bA wq), (11, bA wb)] ⟨[⟨false, [.c (.sl true 0 []), .c (.sl true 0 []), .c (.sl true 0 []), iA 0, iA 0, .c (.sl true 0 []), .c (.sl true 0 [])]⟩, rdB ex L n r2, polB { p with prin := p.prin ++ [x] } { k with k1 := apK hw k.k1 p.prin }], (apH hw k.k1 9 1 p.prin)⟩ ?_ ?_
        · unfold otP1
          simp only [go_sem, reduceCtorEq, Nat.reduceEqDiff, Nat.reduceLT, Nat.reduceLeDiff, Nat.reduceAdd, Nat.reduceMul, Nat.reduceSub, Nat.reduceBEq, ↓reduceIte, one_max, ap, bx, avCells_col]
          repeat' (first | (refine call_givesW (cN) ?_; (try dsimp only); (try simp only [go_sem, reduceCtorEq, Nat.reduceEqDiff, Nat.reduceLT, Nat.reduceLeDiff, Nat.reduceAdd, Nat.reduceMul, Nat.reduceSub, Nat.reduceBEq, ↓reduceIte, one_max, ap, bx, avCells_col])) | refine And.intro ?_ ?_ | rfl)
        · repeat (first | (refine tr_region ?_; simp only [go_sem, reduceCtorEq, Nat.reduceEqDiff, Nat.reduceLT, Nat.reduceLeDiff, Nat.reduceAdd, Nat.reduceMul, Nat.reduceSub, Nat.reduceBEq, ↓reduceIte]) | (refine call_givesW (cD) ?_; (try dsimp only); (try simp only [go_sem, reduceCtorEq, Nat.reduceEqDiff, Nat.reduceLT, Nat.reduceLeDiff, Nat.reduceAdd, Nat.reduceMul, Nat.reduceSub, Nat.reduceBEq, ↓reduceIte])) | refine k_of (by assumption) ?_)
          have hmi := must_i (L := L) (n := n) (r := r2) (s := kDot)
          exact hK (f, ⟨mustT L n r2 kDot, { p with prin := p.prin ++ [x] }, wq, wb⟩, { k with k1 := apK hw k.k1 p.prin }, (apH hw k.k1 9 1 p.prin)) _ _ ⟨hS, fun h => (by have := (must_ok h).2; dsimp only at this ⊢; rw [this]; omega), by dsimp only; omega, hk.prin x, by simp only [List.length_append, List.length_cons, List.length_nil]; omega, by dsimp only; omega, by dsimp only; omega, by dsimp only; omega, by dsimp only; omega⟩ ⟨⟨rfl, rfl, rfl, rfl, rfl, rfl, trivial⟩, Keep.refl _, rfl, by simp only [lowB, Bool.and_eq_true]; exact ⟨rfl, rfl, ksOk_low (hk.prin x) _, trivial⟩, Nat.le_refl _, Nat.zero_le _⟩ (by dsimp only; omega)
      | false =>
        rw [h1, if_neg Bool.false_ne_true] at cm0
        cases h2 : isT L r kPred with
        | true =>
          have hlt := (isT_lt h2).2
          rw [h2, if_pos rfl] at cm1
          have cN := rd3 (fun A' hb' => next_gives (A := A') (hw := hw) (ex := ex) (n := n) hb' hL r.adv 1 (by omega)) ⟨false, [.c (.sl true 0 []), .c (.sl true 0 []), .c (.sl true 0 []), iA 0, iA 0, .c (.sl true 0 []), .c (.sl true 0 [])]⟩ [polB p k]
          have hni := next_i (L := L) (n := n) (r := r.adv) (s := 1)
          have hadv : r.adv.i = r.i + 1 := rfl
          have hmi2 := must_i (L := L) (n := n) (r := nextR L n r.adv 1) (s := kSl)
          have hni2 := next_i (L := L) (n := n) (r := mustT L n (nextR L n r.adv 1) kSl) (s := 3)
          have hst : stepF L n ⟨r, p, wq, wb⟩ = ⟨mustT L n (nextR L n (mustT L n (nextR L n r.adv 1) kSl) 3) kDot, { p with preds := p.preds ++ [⟨nextS L r.adv 1, numB (nextS L (mustT L n (nextR L n r.adv 1) kSl) 3)⟩] }, wq, wb⟩ := by
            unfold stepF armF
            dsimp only
            simp only [h1, h2, if_true, if_false, Bool.false_eq_true]
          rw [hst] at hS
          generalize nextS L r.adv 1 = x at *
          generalize nextR L n r.adv 1 = r2 at *
          have cS := rd3 (fun A' hb' => must_gives (A := A') (hw := hw) (ex := ex) (n := n) hb' hL.len r2 kSl) ⟨false, [.c (.sl true 0 []), .c (.sl true 0 []), .c (.sl true 0 []), iA 0, iA 0, .c (.sl true 0 []), .c (.sl true 0 [])]⟩ [polB p k, ⟨false, [sA x, iA 0]⟩]
          generalize mustT L n r2 kSl = r3 at *
          have cU := rd3 (fun A' hb' => number_gives (A := A') (hw := hw) (ex := ex) (n := n) hb' hL r3) ⟨false, [.c (.sl true 0 []), .c (.sl true 0 []), .c (.sl true 0 []), iA 0, iA 0, .c (.sl true 0 []), .c (.sl true 0 [])]⟩ [polB p k, ⟨false, [sA x, iA 0]⟩]
          generalize numB (nextS L r3 3) = u at *
          generalize nextR L n r3 3 = r4 at *
          have ap := fun hp => apPd x u hk.h2 (by omega) hp
          have bx := bldPd x u
          have cD := rd3 (fun A' hb' => must_gives (A := A') (hw := (apH hw k.k2 69 2 p.preds)) (ex := ex) (n := n) hb' hL.len r4 kDot) ⟨false, [.c (.sl true 0 []), .c (.sl true 0 []), .c (.sl true 0 []), iA 0, iA 0, .c (.sl true 0 []), .c (.sl true 0 [])]⟩ [polB { p with preds := p.preds ++ [⟨x, u⟩] } { k with k2 := apK hw k.k2 p.preds }, ⟨false, [sA x, iA u]⟩]
          repeat (first | refine tr_seq_k fun _ _ => ?_ | (refine tr_region ?_; simp only [go_sem, reduceCtorEq, Nat.reduceEqDiff, Nat.reduceLT, Nat.reduceLeDiff, Nat.reduceAdd, Nat.reduceMul, Nat.reduceSub, Nat.reduceBEq, ↓reduceIte]) | (refine call_givesW (cm0) ?_; (try dsimp only); (try simp only [go_sem, reduceCtorEq, Nat.reduceEqDiff, Nat.reduceLT, Nat.reduceLeDiff, Nat.reduceAdd, Nat.reduceMul, Nat.reduceSub, Nat.reduceBEq, ↓reduceIte])) | refine k_of (by assumption) ?_ | refine tr_block ?_ | (refine tr_skip ?_; try simp only [ex_seq, ex_block]))
          refine tr_cond rfl (fun ht => ?_) (fun hf => ?_)
          · cases ht
          repeat (first | refine tr_seq_k fun _ _ => ?_ | (refine tr_region ?_; simp only [go_sem, reduceCtorEq, Nat.reduceEqDiff, Nat.reduceLT, Nat.reduceLeDiff, Nat.reduceAdd, Nat.reduceMul, Nat.reduceSub, Nat.reduceBEq, ↓reduceIte]) | (refine call_givesW (cm1) ?_; (try dsimp only); (try simp only [go_sem, reduceCtorEq, Nat.reduceEqDiff, Nat.reduceLT, Nat.reduceLeDiff, Nat.reduceAdd, Nat.reduceMul, Nat.reduceSub, Nat.reduceBEq, ↓reduceIte])) | refine k_of (by assumption) ?_)
          refine tr_cond rfl (fun ht => ?_) (fun hf => ?_)
          rotate_left
          · cases hf
          repeat (first | refine tr_seq_k fun _ _ => ?_ | (refine tr_region ?_; simp only [go_sem, reduceCtorEq, Nat.reduceEqDiff, Nat.reduceLT, Nat.reduceLeDiff, Nat.reduceAdd, Nat.reduceMul, Nat.reduceSub, Nat.reduceBEq, ↓reduceIte, one_max, ap, bx, avCells_col]) | (refine call_givesW (cN) ?_; (try dsimp only); (try simp only [go_sem, reduceCtorEq, Nat.reduceEqDiff, Nat.reduceLT, Nat.reduceLeDiff, Nat.reduceAdd, Nat.reduceMul, Nat.reduceSub, Nat.reduceBEq, ↓reduceIte, one_max, ap, bx, avCells_col])) | (refine call_givesW (cS) ?_; (try dsimp only); (try simp only [go_sem, reduceCtorEq, Nat.reduceEqDiff, Nat.reduceLT, Nat.reduceLeDiff, Nat.reduceAdd, Nat.reduceMul, Nat.reduceSub, Nat.reduceBEq, ↓reduceIte, one_max, ap, bx, avCells_col])) | (refine call_givesW (cU) ?_; (try dsimp only); (try simp only [go_sem, reduceCtorEq, Nat.reduceEqDiff, Nat.reduceLT, Nat.reduceLeDiff, Nat.reduceAdd, Nat.reduceMul, Nat.reduceSub, Nat.reduceBEq, ↓reduceIte, one_max, ap, bx, avCells_col])) | (refine call_givesW (cD) ?_; (try dsimp only); (try simp only [go_sem, reduceCtorEq, Nat.reduceEqDiff, Nat.reduceLT, Nat.reduceLeDiff, Nat.reduceAdd, Nat.reduceMul, Nat.reduceSub, Nat.reduceBEq, ↓reduceIte, one_max, ap, bx, avCells_col])) | refine k_of (by assumption) ?_)
          have hmi := must_i (L := L) (n := n) (r := r4) (s := kDot)
          exact hK (f, ⟨mustT L n r4 kDot, { p with preds := p.preds ++ [⟨x, u⟩] }, wq, wb⟩, { k with k2 := apK hw k.k2 p.preds }, (apH hw k.k2 69 2 p.preds)) _ _ ⟨hS, fun h => (by have := (must_ok h).2; dsimp only at this ⊢; rw [this]; omega), by dsimp only; omega, hk.preds ⟨x, u⟩, by dsimp only; omega, by simp only [List.length_append, List.length_cons, List.length_nil]; omega, by dsimp only; omega, by dsimp only; omega, by dsimp only; omega⟩ ⟨⟨rfl, rfl, rfl, rfl, rfl, rfl, trivial⟩, Keep.of (eh := [_]) (ew := []) rfl (List.append_nil _).symm, rfl, by simp only [lowB, Bool.and_eq_true]; exact ⟨rfl, rfl, ksOk_low (hk.preds ⟨x, u⟩) _, trivial⟩, Nat.le_refl _, Nat.zero_le _⟩ (by dsimp only; omega)
        | false =>
          rw [h2, if_neg Bool.false_ne_true] at cm1
          cases h3 : isT L r kClear with
          | true =>
            have hlt := (isT_lt h3).2
            rw [h3, if_pos rfl] at cm2
            have cN := rd3 (fun A' hb' => clear_gives (A := A') (hw := hw) (ex := ex) (n := n) hb' hL r.adv hlt) ⟨false, [.c (.sl true 0 []), .c (.sl true 0 []), .c (.sl true 0 []), iA 0, iA 0, .c (.sl true 0 []), .c (.sl true 0 [])]⟩ [polB p k]
            have hni := clear_i (L := L) (n := n) (r := r.adv)
            have hadv : r.adv.i = r.i + 1 := rfl
            have hst : stepF L n ⟨r, p, wq, wb⟩ = ⟨mustT L n (clearF L n r.adv).1 kDot, { p with clears := p.clears ++ [⟨(clearF L n r.adv).2.1, (clearF L n r.adv).2.2.isEmpty, (clearF L n r.adv).2.2⟩] }, wq, wb⟩ := by
              unfold stepF armF
              dsimp only
              simp only [h1, h2, h3, if_true, if_false, Bool.false_eq_true]
            rw [hst] at hS
            generalize clearF L n r.adv = q at *
            obtain ⟨r2, x, B⟩ := q
            dsimp only at *
            have ap := fun hp => apCl x B hk.h3 (by omega) hp
            have bx := bldCl x B
            have cD := rd3 (fun A' hb' => must_gives (A := A') (hw := (apH hw k.k3 54 2 p.clears)) (ex := ex) (n := n) hb' hL.len r2 kDot) ⟨false, [.c (.sl true 0 []), .c (.sl true 0 []), .c (.sl true 0 []), iA 0, iA 0, .c (.sl true 0 []), .c (.sl true 0 [])]⟩ [polB { p with clears := p.clears ++ [⟨x, B.isEmpty, B⟩] } { k with k3 := apK hw k.k3 p.clears }]
            repeat (first | refine tr_seq_k fun _ _ => ?_ | (refine tr_region ?_; simp only [go_sem, reduceCtorEq, Nat.reduceEqDiff, Nat.reduceLT, Nat.reduceLeDiff, Nat.reduceAdd, Nat.reduceMul, Nat.reduceSub, Nat.reduceBEq, ↓reduceIte]) | (refine call_givesW (cm0) ?_; (try dsimp only); (try simp only [go_sem, reduceCtorEq, Nat.reduceEqDiff, Nat.reduceLT, Nat.reduceLeDiff, Nat.reduceAdd, Nat.reduceMul, Nat.reduceSub, Nat.reduceBEq, ↓reduceIte])) | refine k_of (by assumption) ?_ | refine tr_block ?_ | (refine tr_skip ?_; try simp only [ex_seq, ex_block]))
            refine tr_cond rfl (fun ht => ?_) (fun hf => ?_)
            · cases ht
            repeat (first | refine tr_seq_k fun _ _ => ?_ | (refine tr_region ?_; simp only [go_sem, reduceCtorEq, Nat.reduceEqDiff, Nat.reduceLT, Nat.reduceLeDiff, Nat.reduceAdd, Nat.reduceMul, Nat.reduceSub, Nat.reduceBEq, ↓reduceIte]) | (refine call_givesW (cm1) ?_; (try dsimp only); (try simp only [go_sem, reduceCtorEq, Nat.reduceEqDiff, Nat.reduceLT, Nat.reduceLeDiff, Nat.reduceAdd, Nat.reduceMul, Nat.reduceSub, Nat.reduceBEq, ↓reduceIte])) | refine k_of (by assumption) ?_)
            refine tr_cond rfl (fun ht => ?_) (fun hf => ?_)
            · cases ht
            repeat (first | refine tr_seq_k fun _ _ => ?_ | (refine tr_region ?_; simp only [go_sem, reduceCtorEq, Nat.reduceEqDiff, Nat.reduceLT, Nat.reduceLeDiff, Nat.reduceAdd, Nat.reduceMul, Nat.reduceSub, Nat.reduceBEq, ↓reduceIte]) | (refine call_givesW (cm2) ?_; (try dsimp only); (try simp only [go_sem, reduceCtorEq, Nat.reduceEqDiff, Nat.reduceLT, Nat.reduceLeDiff, Nat.reduceAdd, Nat.reduceMul, Nat.reduceSub, Nat.reduceBEq, ↓reduceIte])) | refine k_of (by assumption) ?_)
            refine tr_cond rfl (fun ht => ?_) (fun hf => ?_)
            rotate_left
            · cases hf
            skip
            refine tr_drawX (id := 17) follows otP3 (by kernel_rfl) [(2, .ptr 0 0), (5, .c (.sl ex L.length (L.flatMap tkC))), (8, .ptr 1 0), (9, .ptr 2 0), (10, bA wq), (11, bA wb)] ⟨[⟨false, [.c (.sl true 0 []), .c (.sl true 0 []), .c (.sl true 0 []), iA 0, iA 0, .c (.sl true 0 []), .c (.sl true 0 [])]⟩, rdB ex L n r2, polB { p with clears := p.clears ++ [⟨x, B.isEmpty, B⟩] } { k with k3 := apK hw k.k3 p.clears }], (apH hw k.k3 54 2 p.clears)⟩ ?_ ?_
            · unfold otP3
              simp only [go_sem, reduceCtorEq, Nat.reduceEqDiff, Nat.reduceLT, Nat.reduceLeDiff, Nat.reduceAdd, Nat.reduceMul, Nat.reduceSub, Nat.reduceBEq, ↓reduceIte, one_max, ap, bx, avCells_col]
              repeat' (first | (refine call_givesW (cN) ?_; (try dsimp only); (try simp only [go_sem, reduceCtorEq, Nat.reduceEqDiff, Nat.reduceLT, Nat.reduceLeDiff, Nat.reduceAdd, Nat.reduceMul, Nat.reduceSub, Nat.reduceBEq, ↓reduceIte, one_max, ap, bx, avCells_col])) | refine And.intro ?_ ?_ | rfl)
            · repeat (first | (refine tr_region ?_; simp only [go_sem, reduceCtorEq, Nat.reduceEqDiff, Nat.reduceLT, Nat.reduceLeDiff, Nat.reduceAdd, Nat.reduceMul, Nat.reduceSub, Nat.reduceBEq, ↓reduceIte]) | (refine call_givesW (cD) ?_; (try dsimp only); (try simp only [go_sem, reduceCtorEq, Nat.reduceEqDiff, Nat.reduceLT, Nat.reduceLeDiff, Nat.reduceAdd, Nat.reduceMul, Nat.reduceSub, Nat.reduceBEq, ↓reduceIte])) | refine k_of (by assumption) ?_)
              have hmi := must_i (L := L) (n := n) (r := r2) (s := kDot)
              exact hK (f, ⟨mustT L n r2 kDot, { p with clears := p.clears ++ [⟨x, B.isEmpty, B⟩] }, wq, wb⟩, { k with k3 := apK hw k.k3 p.clears }, (apH hw k.k3 54 2 p.clears)) _ _ ⟨hS, fun h => (by have := (must_ok h).2; dsimp only at this ⊢; rw [this]; omega), by dsimp only; omega, hk.clears ⟨x, B.isEmpty, B⟩, by dsimp only; omega, by dsimp only; omega, by simp only [List.length_append, List.length_cons, List.length_nil]; omega, by dsimp only; omega, by dsimp only; omega⟩ ⟨⟨rfl, rfl, rfl, rfl, rfl, rfl, trivial⟩, Keep.refl _, rfl, by simp only [lowB, Bool.and_eq_true]; exact ⟨rfl, rfl, ksOk_low (hk.clears ⟨x, B.isEmpty, B⟩) _, trivial⟩, Nat.le_refl _, Nat.zero_le _⟩ (by dsimp only; omega)
          | false =>
            rw [h3, if_neg Bool.false_ne_true] at cm2
            cases h4 : isT L r kQuota with
            | true =>
              have hlt := (isT_lt h4).2
              rw [h4, if_pos rfl] at cm3
              have cN := rd3 (fun A' hb' => once_gives (A := A') (hw := hw) (ex := ex) (n := n) hb' hL r.adv wq (Nat.le_add_left _ _) hlt) ⟨false, [.c (.sl true 0 []), .c (.sl true 0 []), .c (.sl true 0 []), iA 0, iA 0, .c (.sl true 0 []), .c (.sl true 0 [])]⟩ [polB p k]
              have hni := once_i (L := L) (n := n) (r := r.adv) (b := wq)
              have hadv : r.adv.i = r.i + 1 := rfl
              have hni2 := next_i (L := L) (n := n) (r := onceR L n r.adv wq) (s := 3)
              have hst : stepF L n ⟨r, p, wq, wb⟩ = ⟨mustT L n (nextR L n (onceR L n r.adv wq) 3) kDot, { p with quota := numB (nextS L (onceR L n r.adv wq) 3) }, true, wb⟩ := by
                unfold stepF armF
                dsimp only
                simp only [h1, h2, h3, h4, if_true, if_false, Bool.false_eq_true]
              rw [hst] at hS
              generalize onceR L n r.adv wq = r2 at *
              have cU := rd3 (fun A' hb' => number_gives (A := A') (hw := hw) (ex := ex) (n := n) hb' hL r2) ⟨false, [.c (.sl true 0 []), .c (.sl true 0 []), .c (.sl true 0 []), iA 0, iA 0, .c (.sl true 0 []), .c (.sl true 0 [])]⟩ [polB p k]
              generalize numB (nextS L r2 3) = u at *
              generalize nextR L n r2 3 = r3 at *
              have cD := rd3 (fun A' hb' => must_gives (A := A') (hw := hw) (ex := ex) (n := n) hb' hL.len r3 kDot) ⟨false, [.c (.sl true 0 []), .c (.sl true 0 []), .c (.sl true 0 []), iA 0, iA 0, .c (.sl true 0 []), .c (.sl true 0 [])]⟩ [polB { p with quota := u } k]
              repeat (first | refine tr_seq_k fun _ _ => ?_ | (refine tr_region ?_; simp only [go_sem, reduceCtorEq, Nat.reduceEqDiff, Nat.reduceLT, Nat.reduceLeDiff, Nat.reduceAdd, Nat.reduceMul, Nat.reduceSub, Nat.reduceBEq, ↓reduceIte]) | (refine call_givesW (cm0) ?_; (try dsimp only); (try simp only [go_sem, reduceCtorEq, Nat.reduceEqDiff, Nat.reduceLT, Nat.reduceLeDiff, Nat.reduceAdd, Nat.reduceMul, Nat.reduceSub, Nat.reduceBEq, ↓reduceIte])) | refine k_of (by assumption) ?_ | refine tr_block ?_ | (refine tr_skip ?_; try simp only [ex_seq, ex_block]))
              refine tr_cond rfl (fun ht => ?_) (fun hf => ?_)
              · cases ht
              repeat (first | refine tr_seq_k fun _ _ => ?_ | (refine tr_region ?_; simp only [go_sem, reduceCtorEq, Nat.reduceEqDiff, Nat.reduceLT, Nat.reduceLeDiff, Nat.reduceAdd, Nat.reduceMul, Nat.reduceSub, Nat.reduceBEq, ↓reduceIte]) | (refine call_givesW (cm1) ?_; (try dsimp only); (try simp only [go_sem, reduceCtorEq, Nat.reduceEqDiff, Nat.reduceLT, Nat.reduceLeDiff, Nat.reduceAdd, Nat.reduceMul, Nat.reduceSub, Nat.reduceBEq, ↓reduceIte])) | refine k_of (by assumption) ?_)
              refine tr_cond rfl (fun ht => ?_) (fun hf => ?_)
              · cases ht
              repeat (first | refine tr_seq_k fun _ _ => ?_ | (refine tr_region ?_; simp only [go_sem, reduceCtorEq, Nat.reduceEqDiff, Nat.reduceLT, Nat.reduceLeDiff, Nat.reduceAdd, Nat.reduceMul, Nat.reduceSub, Nat.reduceBEq, ↓reduceIte]) | (refine call_givesW (cm2) ?_; (try dsimp only); (try simp only [go_sem, reduceCtorEq, Nat.reduceEqDiff, Nat.reduceLT, Nat.reduceLeDiff, Nat.reduceAdd, Nat.reduceMul, Nat.reduceSub, Nat.reduceBEq, ↓reduceIte])) | refine k_of (by assumption) ?_)
              refine tr_cond rfl (fun ht => ?_) (fun hf => ?_)
              · cases ht
              repeat (first | refine tr_seq_k fun _ _ => ?_ | (refine tr_region ?_; simp only [go_sem, reduceCtorEq, Nat.reduceEqDiff, Nat.reduceLT, Nat.reduceLeDiff, Nat.reduceAdd, Nat.reduceMul, Nat.reduceSub, Nat.reduceBEq, ↓reduceIte]) | (refine call_givesW (cm3) ?_; (try dsimp only); (try simp only [go_sem, reduceCtorEq, Nat.reduceEqDiff, Nat.reduceLT, Nat.reduceLeDiff, Nat.reduceAdd, Nat.reduceMul, Nat.reduceSub, Nat.reduceBEq, ↓reduceIte])) | refine k_of (by assumption) ?_)
              refine tr_cond rfl (fun ht => ?_) (fun hf => ?_)
              rotate_left
              · cases hf
              repeat (first | refine tr_seq_k fun _ _ => ?_ | (refine tr_region ?_; simp only [go_sem, reduceCtorEq, Nat.reduceEqDiff, Nat.reduceLT, Nat.reduceLeDiff, Nat.reduceAdd, Nat.reduceMul, Nat.reduceSub, Nat.reduceBEq, ↓reduceIte]) | (refine call_givesW (cN) ?_; (try dsimp only); (try simp only [go_sem, reduceCtorEq, Nat.reduceEqDiff, Nat.reduceLT, Nat.reduceLeDiff, Nat.reduceAdd, Nat.reduceMul, Nat.reduceSub, Nat.reduceBEq, ↓reduceIte])) | (refine call_givesW (cU) ?_; (try dsimp only); (try simp only [go_sem, reduceCtorEq, Nat.reduceEqDiff, Nat.reduceLT, Nat.reduceLeDiff, Nat.reduceAdd, Nat.reduceMul, Nat.reduceSub, Nat.reduceBEq, ↓reduceIte])) | (refine call_givesW (cD) ?_; (try dsimp only); (try simp only [go_sem, reduceCtorEq, Nat.reduceEqDiff, Nat.reduceLT, Nat.reduceLeDiff, Nat.reduceAdd, Nat.reduceMul, Nat.reduceSub, Nat.reduceBEq, ↓reduceIte])) | refine k_of (by assumption) ?_)
              have hmi := must_i (L := L) (n := n) (r := r3) (s := kDot)
              exact hK (f, ⟨mustT L n r3 kDot, { p with quota := u }, true, wb⟩, k, hw) _ _ ⟨hS, fun h => (by have := (must_ok h).2; dsimp only at this ⊢; rw [this]; omega), by dsimp only; omega, ⟨hk.h1, hk.h2, hk.h3, hk.h4, hk.h5⟩, by dsimp only; omega, by dsimp only; omega, by dsimp only; omega, by dsimp only; omega, by dsimp only; omega⟩ ⟨⟨rfl, rfl, rfl, rfl, rfl, rfl, trivial⟩, Keep.refl _, rfl, by simp only [lowB, Bool.and_eq_true]; exact ⟨rfl, rfl, ksOk_low (⟨hk.h1, hk.h2, hk.h3, hk.h4, hk.h5⟩) _, trivial⟩, Nat.le_refl _, Nat.zero_le _⟩ (by dsimp only; omega)
            | false =>
              rw [h4, if_neg Bool.false_ne_true] at cm3
              cases h5 : isT L r kBudget with
              | true =>
                have hlt := (isT_lt h5).2
                rw [h5, if_pos rfl] at cm4
                have cN := rd3 (fun A' hb' => once_gives (A := A') (hw := hw) (ex := ex) (n := n) hb' hL r.adv wb (Nat.le_add_left _ _) hlt) ⟨false, [.c (.sl true 0 []), .c (.sl true 0 []), .c (.sl true 0 []), iA 0, iA 0, .c (.sl true 0 []), .c (.sl true 0 [])]⟩ [polB p k]
                have hni := once_i (L := L) (n := n) (r := r.adv) (b := wb)
                have hadv : r.adv.i = r.i + 1 := rfl
                have hni2 := next_i (L := L) (n := n) (r := onceR L n r.adv wb) (s := 3)
                have hst : stepF L n ⟨r, p, wq, wb⟩ = ⟨mustT L n (nextR L n (onceR L n r.adv wb) 3) kDot, { p with budget := numB (nextS L (onceR L n r.adv wb) 3) }, wq, true⟩ := by
                  unfold stepF armF
                  dsimp only
                  simp only [h1, h2, h3, h4, h5, if_true, if_false, Bool.false_eq_true]
                rw [hst] at hS
                generalize onceR L n r.adv wb = r2 at *
                have cU := rd3 (fun A' hb' => number_gives (A := A') (hw := hw) (ex := ex) (n := n) hb' hL r2) ⟨false, [.c (.sl true 0 []), .c (.sl true 0 []), .c (.sl true 0 []), iA 0, iA 0, .c (.sl true 0 []), .c (.sl true 0 [])]⟩ [polB p k]
                generalize numB (nextS L r2 3) = u at *
                generalize nextR L n r2 3 = r3 at *
                have cD := rd3 (fun A' hb' => must_gives (A := A') (hw := hw) (ex := ex) (n := n) hb' hL.len r3 kDot) ⟨false, [.c (.sl true 0 []), .c (.sl true 0 []), .c (.sl true 0 []), iA 0, iA 0, .c (.sl true 0 []), .c (.sl true 0 [])]⟩ [polB { p with budget := u } k]
                repeat (first | refine tr_seq_k fun _ _ => ?_ | (refine tr_region ?_; simp only [go_sem, reduceCtorEq, Nat.reduceEqDiff, Nat.reduceLT, Nat.reduceLeDiff, Nat.reduceAdd, Nat.reduceMul, Nat.reduceSub, Nat.reduceBEq, ↓reduceIte]) | (refine call_givesW (cm0) ?_; (try dsimp only); (try simp only [go_sem, reduceCtorEq, Nat.reduceEqDiff, Nat.reduceLT, Nat.reduceLeDiff, Nat.reduceAdd, Nat.reduceMul, Nat.reduceSub, Nat.reduceBEq, ↓reduceIte])) | refine k_of (by assumption) ?_ | refine tr_block ?_ | (refine tr_skip ?_; try simp only [ex_seq, ex_block]))
                refine tr_cond rfl (fun ht => ?_) (fun hf => ?_)
                · cases ht
                repeat (first | refine tr_seq_k fun _ _ => ?_ | (refine tr_region ?_; simp only [go_sem, reduceCtorEq, Nat.reduceEqDiff, Nat.reduceLT, Nat.reduceLeDiff, Nat.reduceAdd, Nat.reduceMul, Nat.reduceSub, Nat.reduceBEq, ↓reduceIte]) | (refine call_givesW (cm1) ?_; (try dsimp only); (try simp only [go_sem, reduceCtorEq, Nat.reduceEqDiff, Nat.reduceLT, Nat.reduceLeDiff, Nat.reduceAdd, Nat.reduceMul, Nat.reduceSub, Nat.reduceBEq, ↓reduceIte])) | refine k_of (by assumption) ?_)
                refine tr_cond rfl (fun ht => ?_) (fun hf => ?_)
                · cases ht
                repeat (first | refine tr_seq_k fun _ _ => ?_ | (refine tr_region ?_; simp only [go_sem, reduceCtorEq, Nat.reduceEqDiff, Nat.reduceLT, Nat.reduceLeDiff, Nat.reduceAdd, Nat.reduceMul, Nat.reduceSub, Nat.reduceBEq, ↓reduceIte]) | (refine call_givesW (cm2) ?_; (try dsimp only); (try simp only [go_sem, reduceCtorEq, Nat.reduceEqDiff, Nat.reduceLT, Nat.reduceLeDiff, Nat.reduceAdd, Nat.reduceMul, Nat.reduceSub, Nat.reduceBEq, ↓reduceIte])) | refine k_of (by assumption) ?_)
                refine tr_cond rfl (fun ht => ?_) (fun hf => ?_)
                · cases ht
                repeat (first | refine tr_seq_k fun _ _ => ?_ | (refine tr_region ?_; simp only [go_sem, reduceCtorEq, Nat.reduceEqDiff, Nat.reduceLT, Nat.reduceLeDiff, Nat.reduceAdd, Nat.reduceMul, Nat.reduceSub, Nat.reduceBEq, ↓reduceIte]) | (refine call_givesW (cm3) ?_; (try dsimp only); (try simp only [go_sem, reduceCtorEq, Nat.reduceEqDiff, Nat.reduceLT, Nat.reduceLeDiff, Nat.reduceAdd, Nat.reduceMul, Nat.reduceSub, Nat.reduceBEq, ↓reduceIte])) | refine k_of (by assumption) ?_)
                refine tr_cond rfl (fun ht => ?_) (fun hf => ?_)
                · cases ht
                repeat (first | refine tr_seq_k fun _ _ => ?_ | (refine tr_region ?_; simp only [go_sem, reduceCtorEq, Nat.reduceEqDiff, Nat.reduceLT, Nat.reduceLeDiff, Nat.reduceAdd, Nat.reduceMul, Nat.reduceSub, Nat.reduceBEq, ↓reduceIte]) | (refine call_givesW (cm4) ?_; (try dsimp only); (try simp only [go_sem, reduceCtorEq, Nat.reduceEqDiff, Nat.reduceLT, Nat.reduceLeDiff, Nat.reduceAdd, Nat.reduceMul, Nat.reduceSub, Nat.reduceBEq, ↓reduceIte])) | refine k_of (by assumption) ?_)
                refine tr_cond rfl (fun ht => ?_) (fun hf => ?_)
                rotate_left
                · cases hf
                repeat (first | refine tr_seq_k fun _ _ => ?_ | (refine tr_region ?_; simp only [go_sem, reduceCtorEq, Nat.reduceEqDiff, Nat.reduceLT, Nat.reduceLeDiff, Nat.reduceAdd, Nat.reduceMul, Nat.reduceSub, Nat.reduceBEq, ↓reduceIte]) | (refine call_givesW (cN) ?_; (try dsimp only); (try simp only [go_sem, reduceCtorEq, Nat.reduceEqDiff, Nat.reduceLT, Nat.reduceLeDiff, Nat.reduceAdd, Nat.reduceMul, Nat.reduceSub, Nat.reduceBEq, ↓reduceIte])) | (refine call_givesW (cU) ?_; (try dsimp only); (try simp only [go_sem, reduceCtorEq, Nat.reduceEqDiff, Nat.reduceLT, Nat.reduceLeDiff, Nat.reduceAdd, Nat.reduceMul, Nat.reduceSub, Nat.reduceBEq, ↓reduceIte])) | (refine call_givesW (cD) ?_; (try dsimp only); (try simp only [go_sem, reduceCtorEq, Nat.reduceEqDiff, Nat.reduceLT, Nat.reduceLeDiff, Nat.reduceAdd, Nat.reduceMul, Nat.reduceSub, Nat.reduceBEq, ↓reduceIte])) | refine k_of (by assumption) ?_)
                have hmi := must_i (L := L) (n := n) (r := r3) (s := kDot)
                exact hK (f, ⟨mustT L n r3 kDot, { p with budget := u }, wq, true⟩, k, hw) _ _ ⟨hS, fun h => (by have := (must_ok h).2; dsimp only at this ⊢; rw [this]; omega), by dsimp only; omega, ⟨hk.h1, hk.h2, hk.h3, hk.h4, hk.h5⟩, by dsimp only; omega, by dsimp only; omega, by dsimp only; omega, by dsimp only; omega, by dsimp only; omega⟩ ⟨⟨rfl, rfl, rfl, rfl, rfl, rfl, trivial⟩, Keep.refl _, rfl, by simp only [lowB, Bool.and_eq_true]; exact ⟨rfl, rfl, ksOk_low (⟨hk.h1, hk.h2, hk.h3, hk.h4, hk.h5⟩) _, trivial⟩, Nat.le_refl _, Nat.zero_le _⟩ (by dsimp only; omega)
              | false =>
                rw [h5, if_neg Bool.false_ne_true] at cm4
                obtain ⟨k2, hw2, hk2, hle, cN⟩ := says_gives (z := ⟨false, [.c (.sl true 0 []), .c (.sl true 0 []), .c (.sl true 0 []), iA 0, iA 0, .c (.sl true 0 []), .c (.sl true 0 [])]⟩) (ex := ex) (n := n) hk hL r hi (by omega) (by omega)
                have hni := says_i (L := L) (n := n) (r := r) (p := p)
                obtain ⟨l1, l2, l3, l4, l5⟩ := says_len (L := L) (n := n) (r := r) (p := p)
                have hst : stepF L n ⟨r, p, wq, wb⟩ = ⟨mustT L n (saysF L n r p).1 kDot, (saysF L n r p).2, wq, wb⟩ := by
                  unfold stepF armF
                  dsimp only
                  simp only [h1, h2, h3, h4, h5, if_true, if_false, Bool.false_eq_true]
                rw [hst] at hS
                generalize saysF L n r p = q at *
                obtain ⟨r2, p2⟩ := q
                dsimp only at *
                have cD := rd3 (fun A' hb' => must_gives (A := A') (hw := hw2) (ex := ex) (n := n) hb' hL.len r2 kDot) ⟨false, [.c (.sl true 0 []), .c (.sl true 0 []), .c (.sl true 0 []), iA 0, iA 0, .c (.sl true 0 []), .c (.sl true 0 [])]⟩ [polB p2 k2]
                repeat (first | refine tr_seq_k fun _ _ => ?_ | (refine tr_region ?_; simp only [go_sem, reduceCtorEq, Nat.reduceEqDiff, Nat.reduceLT, Nat.reduceLeDiff, Nat.reduceAdd, Nat.reduceMul, Nat.reduceSub, Nat.reduceBEq, ↓reduceIte]) | (refine call_givesW (cm0) ?_; (try dsimp only); (try simp only [go_sem, reduceCtorEq, Nat.reduceEqDiff, Nat.reduceLT, Nat.reduceLeDiff, Nat.reduceAdd, Nat.reduceMul, Nat.reduceSub, Nat.reduceBEq, ↓reduceIte])) | refine k_of (by assumption) ?_ | refine tr_block ?_ | (refine tr_skip ?_; try simp only [ex_seq, ex_block]))
                refine tr_cond rfl (fun ht => ?_) (fun hf => ?_)
                · cases ht
                repeat (first | refine tr_seq_k fun _ _ => ?_ | (refine tr_region ?_; simp only [go_sem, reduceCtorEq, Nat.reduceEqDiff, Nat.reduceLT, Nat.reduceLeDiff, Nat.reduceAdd, Nat.reduceMul, Nat.reduceSub, Nat.reduceBEq, ↓reduceIte]) | (refine call_givesW (cm1) ?_; (try dsimp only); (try simp only [go_sem, reduceCtorEq, Nat.reduceEqDiff, Nat.reduceLT, Nat.reduceLeDiff, Nat.reduceAdd, Nat.reduceMul, Nat.reduceSub, Nat.reduceBEq, ↓reduceIte])) | refine k_of (by assumption) ?_)
                refine tr_cond rfl (fun ht => ?_) (fun hf => ?_)
                · cases ht
                repeat (first | refine tr_seq_k fun _ _ => ?_ | (refine tr_region ?_; simp only [go_sem, reduceCtorEq, Nat.reduceEqDiff, Nat.reduceLT, Nat.reduceLeDiff, Nat.reduceAdd, Nat.reduceMul, Nat.reduceSub, Nat.reduceBEq, ↓reduceIte]) | (refine call_givesW (cm2) ?_; (try dsimp only); (try simp only [go_sem, reduceCtorEq, Nat.reduceEqDiff, Nat.reduceLT, Nat.reduceLeDiff, Nat.reduceAdd, Nat.reduceMul, Nat.reduceSub, Nat.reduceBEq, ↓reduceIte])) | refine k_of (by assumption) ?_)
                refine tr_cond rfl (fun ht => ?_) (fun hf => ?_)
                · cases ht
                repeat (first | refine tr_seq_k fun _ _ => ?_ | (refine tr_region ?_; simp only [go_sem, reduceCtorEq, Nat.reduceEqDiff, Nat.reduceLT, Nat.reduceLeDiff, Nat.reduceAdd, Nat.reduceMul, Nat.reduceSub, Nat.reduceBEq, ↓reduceIte]) | (refine call_givesW (cm3) ?_; (try dsimp only); (try simp only [go_sem, reduceCtorEq, Nat.reduceEqDiff, Nat.reduceLT, Nat.reduceLeDiff, Nat.reduceAdd, Nat.reduceMul, Nat.reduceSub, Nat.reduceBEq, ↓reduceIte])) | refine k_of (by assumption) ?_)
                refine tr_cond rfl (fun ht => ?_) (fun hf => ?_)
                · cases ht
                repeat (first | refine tr_seq_k fun _ _ => ?_ | (refine tr_region ?_; simp only [go_sem, reduceCtorEq, Nat.reduceEqDiff, Nat.reduceLT, Nat.reduceLeDiff, Nat.reduceAdd, Nat.reduceMul, Nat.reduceSub, Nat.reduceBEq, ↓reduceIte]) | (refine call_givesW (cm4) ?_; (try dsimp only); (try simp only [go_sem, reduceCtorEq, Nat.reduceEqDiff, Nat.reduceLT, Nat.reduceLeDiff, Nat.reduceAdd, Nat.reduceMul, Nat.reduceSub, Nat.reduceBEq, ↓reduceIte])) | refine k_of (by assumption) ?_)
                refine tr_cond rfl (fun ht => ?_) (fun hf => ?_)
                · cases ht
                repeat (first | (refine tr_region ?_; simp only [go_sem, reduceCtorEq, Nat.reduceEqDiff, Nat.reduceLT, Nat.reduceLeDiff, Nat.reduceAdd, Nat.reduceMul, Nat.reduceSub, Nat.reduceBEq, ↓reduceIte]) | (refine call_givesW (cN) ?_; (try dsimp only); (try simp only [go_sem, reduceCtorEq, Nat.reduceEqDiff, Nat.reduceLT, Nat.reduceLeDiff, Nat.reduceAdd, Nat.reduceMul, Nat.reduceSub, Nat.reduceBEq, ↓reduceIte])) | (refine call_givesW (cD) ?_; (try dsimp only); (try simp only [go_sem, reduceCtorEq, Nat.reduceEqDiff, Nat.reduceLT, Nat.reduceLeDiff, Nat.reduceAdd, Nat.reduceMul, Nat.reduceSub, Nat.reduceBEq, ↓reduceIte])) | refine k_of (by assumption) ?_)
                have hmi := must_i (L := L) (n := n) (r := r2) (s := kDot)
                exact hK (f, ⟨mustT L n r2 kDot, p2, wq, wb⟩, k2, hw2) _ _ ⟨hS, fun h => (by have := (must_ok h).2; dsimp only at this ⊢; rw [this]; omega), by dsimp only; omega, hk2, by rw [l1]; omega, by rw [l2]; omega, by rw [l3]; omega, by dsimp only; omega, by dsimp only; omega⟩ ⟨⟨rfl, rfl, rfl, rfl, rfl, rfl, trivial⟩, Keep.refl _, rfl, by simp only [lowB, Bool.and_eq_true]; exact ⟨rfl, rfl, ksOk_low (hk2) _, trivial⟩, Nat.le_refl _, Nat.zero_le _⟩ (by dsimp only; omega)
end Go.Proofs.YtaeehadibckcjaaDoor
namespace Go.Proofs.YtaeehadibckcjaaDoor
open Go.RowKit Go.Vs Go.Vs.Ab
set_option maxRecDepth 100000
set_option maxHeartbeats 4000000
abbrev kQ : ByteArray := ⟨#[63]⟩
def at0 : Atm := ⟨⟨#[]⟩, ⟨#[]⟩, 0, noT, noT, noT, noT⟩
def goalR (L : List Tk) (n : Int) : Rs := if (mustT L n (atomF L n ⟨0, 0, 0⟩).1 kQ).e = 0 ∧ (mustT L n (atomF L n ⟨0, 0, 0⟩).1 kQ).i < L.length then (mustT L n (atomF L n ⟨0, 0, 0⟩).1 kQ).fail L n 3 (mustT L n (atomF L n ⟨0, 0, 0⟩).1 kQ).i else mustT L n (atomF L n ⟨0, 0, 0⟩).1 kQ
def goalParse (s : ByteArray) : Atm × Int × Int :=
  if (toksAll s).2.2 ≠ 0 then (at0, (toksAll s).2.1, (toksAll s).2.2)
  else if (goalR (toksAll s).1 s.size).e ≠ 0 then (at0, (goalR (toksAll s).1 s.size).at_, (goalR (toksAll s).1 s.size).e)
  else ((atomF (toksAll s).1 s.size ⟨0, 0, 0⟩).2, 0, 0)
def otG : OT := .one 1 (.one 2 (.one 3 (.one 5 (.one 6 (.one 7 (.br 0 (.br 4 (.br 8 (.br 9 (.one 10 (.one 11 (.fin))) (.stop)) (.br 9 (.one 10 (.br 8 (.one 11 (.fin)) (.stop))) (.stop))) (.br 8 (.br 4 (.br 9 (.one 10 (.one 11 (.fin))) (.stop)) (.br 9 (.br 4 (.one 10 (.one 11 (.fin))) (.stop)) (.stop))) (.br 9 (.br 4 (.one 10 (.br 8 (.one 11 (.fin)) (.stop))) (.br 8 (.br 4 (.one 10 (.one 11 (.fin))) (.stop)) (.stop))) (.stop)))) (.br 4 (.br 0 (.br 8 (.br 9 (.one 10 (.one 11 (.fin))) (.stop)) (.br 9 (.one 10 (.br 8 (.one 11 (.fin)) (.stop))) (.stop))) (.br 8 (.br 0 (.br 9 (.one 10 (.one 11 (.fin))) (.stop)) (.stop)) (.stop))) (.br 8 (.br 0 (.br 4 (.br 9 (.one 10 (.one 11 (.fin))) (.stop)) (.br 9 (.br 4 (.one 10 (.one 11 (.fin))) (.stop)) (.stop))) (.br 4 (.br 0 (.br 9 (.one 10 (.one 11 (.fin))) (.stop)) (.stop)) (.stop))) (.stop)))))))))
theorem one_does (s : ByteArray) (hz : s.size ≤ 1000000000) : Does Tryd.prog 58 [sA s, sA kQ] (fun m => (.tup [atA (goalParse s).1, iA (goalParse s).2.1, iA (goalParse s).2.2], m)) := by
  have cA := allK_does s
  have hL := tkOk_all s
  obtain ⟨P, hP⟩ : ∃ P, P = goalParse s := ⟨_, rfl⟩
  rw [← hP]
  unfold goalParse at hP
  generalize toksAll s = q at *
  obtain ⟨L, pos, e⟩ := q
  dsimp only at *
  cases d0 : decide (e = 0) with
  | false =>
    rw [if_pos (of_decide_eq_false d0)] at hP
    rw [hP]
    refine does_of' Tryd.func58 rfl (by kernel_rfl) rfl Tryd.ntmps58 rfl rfl fun Q hQ => ?_
    repeat (first | refine tr_seq_k fun _ _ => ?_ | (refine tr_region ?_; simp only [go_sem, reduceCtorEq, Nat.reduceEqDiff, Nat.reduceLT, Nat.reduceLeDiff, Nat.reduceAdd, Nat.reduceMul, Nat.reduceSub, Nat.reduceBEq, ↓reduceIte, d0]) | (refine call_of (cA) ?_ ?_; (first | rfl | simp only [go_sem, reduceCtorEq, Nat.reduceEqDiff, Nat.reduceLT, Nat.reduceLeDiff, Nat.reduceAdd, Nat.reduceMul, Nat.reduceSub, Nat.reduceBEq, ↓reduceIte, d0, shut_col]); simp only [go_sem, reduceCtorEq, Nat.reduceEqDiff, Nat.reduceLT, Nat.reduceLeDiff, Nat.reduceAdd, Nat.reduceMul, Nat.reduceSub, Nat.reduceBEq, ↓reduceIte, d0]) | refine k_of (by assumption) ?_)
    refine tr_cond rfl (fun ht => ?_) (fun hf => ?_)
    · repeat (first | refine tr_seq_k fun _ _ => ?_ | (refine tr_region ?_; simp only [go_sem, reduceCtorEq, Nat.reduceEqDiff, Nat.reduceLT, Nat.reduceLeDiff, Nat.reduceAdd, Nat.reduceMul, Nat.reduceSub, Nat.reduceBEq, ↓reduceIte]) | refine k_of (by assumption) ?_ | (refine tr_ret ?_; try simp only [ex_seq_ret, ex_block_ret]))
      refine (hQ _ _ [.agg [.v (.string ⟨#[]⟩), .v (.string ⟨#[]⟩), .v (.int .i64 0), .v (.bool false), .v (.string ⟨#[]⟩), .v (.bool false), .v (.string ⟨#[]⟩), .v (.bool false), .v (.string ⟨#[]⟩), .v (.bool false), .v (.string ⟨#[]⟩)], iA pos, iA e] ?_ (fun m => rfl)).2 <;> simp only [go_sem, reduceCtorEq, Nat.reduceEqDiff, Nat.reduceLT, Nat.reduceLeDiff, Nat.reduceAdd, Nat.reduceMul, Nat.reduceSub, Nat.reduceBEq, ↓reduceIte, Tryd.f58]
    · cases hf
  | true =>
    have he0 := of_decide_eq_true d0
    rw [if_neg (by rw [he0]; exact fun h => h rfl)] at hP
    obtain ⟨n, hn⟩ : ∃ n : Int, n = s.size := ⟨_, rfl⟩
    obtain ⟨ex, hex⟩ : ∃ ex, ex = L.isEmpty := ⟨_, rfl⟩
    rw [← hn] at hP
    rw [← hex] at cA
    have hlen := hL.len
    have c1 : GivesW Tryd.prog 76 [.ptr 1 0] ⟨[atZ0, ⟨false, [.c (.sl ex L.length (L.flatMap tkC)), iA 0, iA n, iA 0, iA 0]⟩], []⟩ (atA (atomF L n ⟨0, 0, 0⟩).2) ⟨[atZ0, rdB ex L n (atomF L n ⟨0, 0, 0⟩).1], []⟩ :=
      rd3 (fun A' hb' => atom_gives (A := A') (hw := []) (ex := ex) (n := n) hb' hL ⟨0, 0, 0⟩) atZ0 []
    have hg : goalR L n = goalR L n := rfl
    unfold goalR at hP
    generalize atomF L n ⟨0, 0, 0⟩ = q at *
    obtain ⟨r0, a⟩ := q
    dsimp only at *
    have c2 := rd3 (fun A' hb' => must_gives (A := A') (hw := []) (ex := ex) (n := n) hb' hL.len r0 kQ) atZ0 [⟨false, ([.c (.v (.string a.says)), .c (.v (.string a.pred)), .c (.v (.int .i64 a.n)), .c (.v (.bool a.a0.v)), .c (.v (.string a.a0.name)), .c (.v (.bool a.a1.v)), .c (.v (.string a.a1.name)), .c (.v (.bool a.a2.v)), .c (.v (.string a.a2.name)), .c (.v (.bool a.a3.v)), .c (.v (.string a.a3.name))] : List AV)⟩]
    generalize mustT L n r0 kQ = r1 at *
    obtain ⟨r2, hr2⟩ : ∃ r2, r2 = (if r1.e = 0 ∧ r1.i < L.length then r1.fail L n 3 r1.i else r1) := ⟨_, rfl⟩
    rw [← hr2] at hP
    have kne : decide (kQ = (⟨#[]⟩ : ByteArray)) = false := by decide
    cases d4 : decide (r1.e = 0) with
    | false =>
      rw [if_neg (fun h => of_decide_eq_false d4 h.1)] at hr2
      obtain rfl := hr2
      rw [if_pos (of_decide_eq_false d4)] at hP
      rw [hP]
      have d6 := d4
      refine does_of' Tryd.func58 rfl (by kernel_rfl) rfl Tryd.ntmps58 rfl rfl fun Q hQ => ?_
      repeat (first | refine tr_seq_k fun _ _ => ?_ | (refine tr_region ?_; simp only [go_sem, reduceCtorEq, Nat.reduceEqDiff, Nat.reduceLT, Nat.reduceLeDiff, Nat.reduceAdd, Nat.reduceMul, Nat.reduceSub, Nat.reduceBEq, ↓reduceIte, d0, ← hn]) | (refine call_of (cA) ?_ ?_; (first | rfl | simp only [go_sem, reduceCtorEq, Nat.reduceEqDiff, Nat.reduceLT, Nat.reduceLeDiff, Nat.reduceAdd, Nat.reduceMul, Nat.reduceSub, Nat.reduceBEq, ↓reduceIte, d0, ← hn, shut_col]); simp only [go_sem, reduceCtorEq, Nat.reduceEqDiff, Nat.reduceLT, Nat.reduceLeDiff, Nat.reduceAdd, Nat.reduceMul, Nat.reduceSub, Nat.reduceBEq, ↓reduceIte, d0, ← hn]) | refine k_of (by assumption) ?_)
      refine tr_cond rfl (fun ht => ?_) (fun hf => ?_)
      · cases ht
      repeat (first | refine tr_seq_k fun _ _ => ?_ | (refine tr_region ?_; simp only [go_sem, reduceCtorEq, Nat.reduceEqDiff, Nat.reduceLT, Nat.reduceLeDiff, Nat.reduceAdd, Nat.reduceMul, Nat.reduceSub, Nat.reduceBEq, ↓reduceIte, ← hn, kne]) | (refine call_givesW (c1) ?_; (try dsimp only); (try simp only [go_sem, reduceCtorEq, Nat.reduceEqDiff, Nat.reduceLT, Nat.reduceLeDiff, Nat.reduceAdd, Nat.reduceMul, Nat.reduceSub, Nat.reduceBEq, ↓reduceIte, ← hn, kne])) | refine k_of (by assumption) ?_ | (refine tr_skip ?_; try simp only [ex_seq, ex_block]))
      refine tr_cond rfl (fun ht => ?_) (fun hf => ?_)
      · repeat (first | refine tr_seq_k fun _ _ => ?_ | (refine tr_region ?_; simp only [go_sem, reduceCtorEq, Nat.reduceEqDiff, Nat.reduceLT, Nat.reduceLeDiff, Nat.reduceAdd, Nat.reduceMul, Nat.reduceSub, Nat.reduceBEq, ↓reduceIte, d6]) | (refine call_givesW (c2) ?_; (try dsimp only); (try simp only [go_sem, reduceCtorEq, Nat.reduceEqDiff, Nat.reduceLT, Nat.reduceLeDiff, Nat.reduceAdd, Nat.reduceMul, Nat.reduceSub, Nat.reduceBEq, ↓reduceIte, d6])) | refine k_of (by assumption) ?_)
        refine tr_cond rfl (fun ht => ?_) (fun hf => ?_)
        · cases ht
        · repeat (first | refine tr_seq_k fun _ _ => ?_ | (refine tr_region ?_; simp only [go_sem, reduceCtorEq, Nat.reduceEqDiff, Nat.reduceLT, Nat.reduceLeDiff, Nat.reduceAdd, Nat.reduceMul, Nat.reduceSub, Nat.reduceBEq, ↓reduceIte, d6]) | refine k_of (by assumption) ?_ | (refine tr_skip ?_; try simp only [ex_seq, ex_block]))
          refine tr_cond rfl (fun ht => ?_) (fun hf => ?_)
          · repeat (refine tr_seq_k fun _ _ => ?_)
            refine tr_drawX (id := 11) follows otG (by kernel_rfl) [(4, .ptr 0 0), (5, iA r2.at_), (6, iA r2.e)] ⟨[atZ0, rdB ex L n r2, ⟨false, ([.c (.v (.string a.says)), .c (.v (.string a.pred)), .c (.v (.int .i64 a.n)), .c (.v (.bool a.a0.v)), .c (.v (.string a.a0.name)), .c (.v (.bool a.a1.v)), .c (.v (.string a.a1.name)), .c (.v (.bool a.a2.v)), .c (.v (.string a.a2.name)), .c (.v (.bool a.a3.v)), .c (.v (.string a.a3.name))] : List AV)⟩], []⟩ ?_ ?_
            · unfold otG
              simp only [go_sem, reduceCtorEq, Nat.reduceEqDiff, Nat.reduceLT, Nat.reduceLeDiff, Nat.reduceAdd, Nat.reduceMul, Nat.reduceSub, Nat.reduceBEq, ↓reduceIte]
              skip
            · repeat (first | refine k_of (by assumption) ?_ | (refine tr_ret ?_; try simp only [ex_seq_ret, ex_block_ret]))
              refine (hQ _ _ [.agg [.v (.string ⟨#[]⟩), .v (.string ⟨#[]⟩), .v (.int .i64 0), .v (.bool false), .v (.string ⟨#[]⟩), .v (.bool false), .v (.string ⟨#[]⟩), .v (.bool false), .v (.string ⟨#[]⟩), .v (.bool false), .v (.string ⟨#[]⟩)], iA r2.at_, iA r2.e] ?_ (fun m => rfl)).2 <;> simp only [go_sem, reduceCtorEq, Nat.reduceEqDiff, Nat.reduceLT, Nat.reduceLeDiff, Nat.reduceAdd, Nat.reduceMul, Nat.reduceSub, Nat.reduceBEq, ↓reduceIte, Tryd.f58]
          · cases hf
      · cases hf
    | true =>
      by_cases hil : r1.i < L.length
      · have c3 := rd3 (fun A' hb' => fail_gives (A := A') (hw := []) (ex := ex) (L := L) (n := n) hb' r1 3 r1.i) atZ0 [⟨false, ([.c (.v (.string a.says)), .c (.v (.string a.pred)), .c (.v (.int .i64 a.n)), .c (.v (.bool a.a0.v)), .c (.v (.string a.a0.name)), .c (.v (.bool a.a1.v)), .c (.v (.string a.a1.name)), .c (.v (.bool a.a2.v)), .c (.v (.string a.a2.name)), .c (.v (.bool a.a3.v)), .c (.v (.string a.a3.name))] : List AV)⟩]
        have d5 : decide ((r1.i : Int) < (L.length : Nat)) = true := decide_eq_true (by omega)
        have hfe : (r1.fail L n 3 r1.i).e = 3 := by
          unfold Rs.fail
          rw [if_pos (of_decide_eq_true d4)]
        rw [if_pos ⟨of_decide_eq_true d4, hil⟩] at hr2
        rw [← hr2] at hfe c3
        rw [if_pos (by rw [hfe]; decide)] at hP
        rw [hP]
        clear hr2
        have d6 : decide (r2.e = 0) = false := decide_eq_false (by omega)
        refine does_of' Tryd.func58 rfl (by kernel_rfl) rfl Tryd.ntmps58 rfl rfl fun Q hQ => ?_
        repeat (first | refine tr_seq_k fun _ _ => ?_ | (refine tr_region ?_; simp only [go_sem, reduceCtorEq, Nat.reduceEqDiff, Nat.reduceLT, Nat.reduceLeDiff, Nat.reduceAdd, Nat.reduceMul, Nat.reduceSub, Nat.reduceBEq, ↓reduceIte, d0, ← hn]) | (refine call_of (cA) ?_ ?_; (first | rfl | simp only [go_sem, reduceCtorEq, Nat.reduceEqDiff, Nat.reduceLT, Nat.reduceLeDiff, Nat.reduceAdd, Nat.reduceMul, Nat.reduceSub, Nat.reduceBEq, ↓reduceIte, d0, ← hn, shut_col]); simp only [go_sem, reduceCtorEq, Nat.reduceEqDiff, Nat.reduceLT, Nat.reduceLeDiff, Nat.reduceAdd, Nat.reduceMul, Nat.reduceSub, Nat.reduceBEq, ↓reduceIte, d0, ← hn]) | refine k_of (by assumption) ?_)
        refine tr_cond rfl (fun ht => ?_) (fun hf => ?_)
        · cases ht
        repeat (first | refine tr_seq_k fun _ _ => ?_ | (refine tr_region ?_; simp only [go_sem, reduceCtorEq, Nat.reduceEqDiff, Nat.reduceLT, Nat.reduceLeDiff, Nat.reduceAdd, Nat.reduceMul, Nat.reduceSub, Nat.reduceBEq, ↓reduceIte, ← hn, kne]) | (refine call_givesW (c1) ?_; (try dsimp only); (try simp only [go_sem, reduceCtorEq, Nat.reduceEqDiff, Nat.reduceLT, Nat.reduceLeDiff, Nat.reduceAdd, Nat.reduceMul, Nat.reduceSub, Nat.reduceBEq, ↓reduceIte, ← hn, kne])) | refine k_of (by assumption) ?_ | (refine tr_skip ?_; try simp only [ex_seq, ex_block]))
        refine tr_cond rfl (fun ht => ?_) (fun hf => ?_)
        · repeat (first | refine tr_seq_k fun _ _ => ?_ | (refine tr_region ?_; simp only [go_sem, reduceCtorEq, Nat.reduceEqDiff, Nat.reduceLT, Nat.reduceLeDiff, Nat.reduceAdd, Nat.reduceMul, Nat.reduceSub, Nat.reduceBEq, ↓reduceIte, d4, d5]) | (refine call_givesW (c2) ?_; (try dsimp only); (try simp only [go_sem, reduceCtorEq, Nat.reduceEqDiff, Nat.reduceLT, Nat.reduceLeDiff, Nat.reduceAdd, Nat.reduceMul, Nat.reduceSub, Nat.reduceBEq, ↓reduceIte, d4, d5])) | refine k_of (by assumption) ?_)
          refine tr_cond rfl (fun ht => ?_) (fun hf => ?_)
          · repeat (first | refine tr_seq_k fun _ _ => ?_ | (refine tr_region ?_; simp only [go_sem, reduceCtorEq, Nat.reduceEqDiff, Nat.reduceLT, Nat.reduceLeDiff, Nat.reduceAdd, Nat.reduceMul, Nat.reduceSub, Nat.reduceBEq, ↓reduceIte, d6]) | (refine call_givesW (c3) ?_; (try dsimp only); (try simp only [go_sem, reduceCtorEq, Nat.reduceEqDiff, Nat.reduceLT, Nat.reduceLeDiff, Nat.reduceAdd, Nat.reduceMul, Nat.reduceSub, Nat.reduceBEq, ↓reduceIte, d6])) | refine k_of (by assumption) ?_)
            skip
            refine tr_cond rfl (fun ht => ?_) (fun hf => ?_)
            · repeat (refine tr_seq_k fun _ _ => ?_)
              refine tr_drawX (id := 11) follows otG (by kernel_rfl) [(4, .ptr 0 0), (5, iA r2.at_), (6, iA r2.e)] ⟨[atZ0, rdB ex L n r2, ⟨false, ([.c (.v (.string a.says)), .c (.v (.string a.pred)), .c (.v (.int .i64 a.n)), .c (.v (.bool a.a0.v)), .c (.v (.string a.a0.name)), .c (.v (.bool a.a1.v)), .c (.v (.string a.a1.name)), .c (.v (.bool a.a2.v)), .c (.v (.string a.a2.name)), .c (.v (.bool a.a3.v)), .c (.v (.string a.a3.name))] : List AV)⟩], []⟩ ?_ ?_
              · unfold otG
                simp only [go_sem, reduceCtorEq, Nat.reduceEqDiff, Nat.reduceLT, Nat.reduceLeDiff, Nat.reduceAdd, Nat.reduceMul, Nat.reduceSub, Nat.reduceBEq, ↓reduceIte]
                skip
              · repeat (first | refine k_of (by assumption) ?_ | (refine tr_ret ?_; try simp only [ex_seq_ret, ex_block_ret]))
                refine (hQ _ _ [.agg [.v (.string ⟨#[]⟩), .v (.string ⟨#[]⟩), .v (.int .i64 0), .v (.bool false), .v (.string ⟨#[]⟩), .v (.bool false), .v (.string ⟨#[]⟩), .v (.bool false), .v (.string ⟨#[]⟩), .v (.bool false), .v (.string ⟨#[]⟩)], iA r2.at_, iA r2.e] ?_ (fun m => rfl)).2 <;> simp only [go_sem, reduceCtorEq, Nat.reduceEqDiff, Nat.reduceLT, Nat.reduceLeDiff, Nat.reduceAdd, Nat.reduceMul, Nat.reduceSub, Nat.reduceBEq, ↓reduceIte, Tryd.f58]
            · cases hf
          · cases hf
        · cases hf
      · have d5 : decide ((r1.i : Int) < (L.length : Nat)) = false := decide_eq_false (by omega)
        rw [if_neg (fun h => hil h.2)] at hr2
        obtain rfl := hr2
        rw [if_neg (fun h => h (of_decide_eq_true d4))] at hP
        rw [hP]
        refine does_of' Tryd.func58 rfl (by kernel_rfl) rfl Tryd.ntmps58 rfl rfl fun Q hQ => ?_
        repeat (first | refine tr_seq_k fun _ _ => ?_ | (refine tr_region ?_; simp only [go_sem, reduceCtorEq, Nat.reduceEqDiff, Nat.reduceLT, Nat.reduceLeDiff, Nat.reduceAdd, Nat.reduceMul, Nat.reduceSub, Nat.reduceBEq, ↓reduceIte, d0, ← hn]) | (refine call_of (cA) ?_ ?_; (first | rfl | simp only [go_sem, reduceCtorEq, Nat.reduceEqDiff, Nat.reduceLT, Nat.reduceLeDiff, Nat.reduceAdd, Nat.reduceMul, Nat.reduceSub, Nat.reduceBEq, ↓reduceIte, d0, ← hn, shut_col]); simp only [go_sem, reduceCtorEq, Nat.reduceEqDiff, Nat.reduceLT, Nat.reduceLeDiff, Nat.reduceAdd, Nat.reduceMul, Nat.reduceSub, Nat.reduceBEq, ↓reduceIte, d0, ← hn]) | refine k_of (by assumption) ?_)
        refine tr_cond rfl (fun ht => ?_) (fun hf => ?_)
        · cases ht
        repeat (first | refine tr_seq_k fun _ _ => ?_ | (refine tr_region ?_; simp only [go_sem, reduceCtorEq, Nat.reduceEqDiff, Nat.reduceLT, Nat.reduceLeDiff, Nat.reduceAdd, Nat.reduceMul, Nat.reduceSub, Nat.reduceBEq, ↓reduceIte, ← hn, kne]) | (refine call_givesW (c1) ?_; (try dsimp only); (try simp only [go_sem, reduceCtorEq, Nat.reduceEqDiff, Nat.reduceLT, Nat.reduceLeDiff, Nat.reduceAdd, Nat.reduceMul, Nat.reduceSub, Nat.reduceBEq, ↓reduceIte, ← hn, kne])) | refine k_of (by assumption) ?_ | (refine tr_skip ?_; try simp only [ex_seq, ex_block]))
        refine tr_cond rfl (fun ht => ?_) (fun hf => ?_)
        · repeat (first | refine tr_seq_k fun _ _ => ?_ | (refine tr_region ?_; simp only [go_sem, reduceCtorEq, Nat.reduceEqDiff, Nat.reduceLT, Nat.reduceLeDiff, Nat.reduceAdd, Nat.reduceMul, Nat.reduceSub, Nat.reduceBEq, ↓reduceIte, d4, d5]) | (refine call_givesW (c2) ?_; (try dsimp only); (try simp only [go_sem, reduceCtorEq, Nat.reduceEqDiff, Nat.reduceLT, Nat.reduceLeDiff, Nat.reduceAdd, Nat.reduceMul, Nat.reduceSub, Nat.reduceBEq, ↓reduceIte, d4, d5])) | refine k_of (by assumption) ?_)
          refine tr_cond rfl (fun ht => ?_) (fun hf => ?_)
          · cases ht
          · repeat (first | refine tr_seq_k fun _ _ => ?_ | (refine tr_region ?_; simp only [go_sem, reduceCtorEq, Nat.reduceEqDiff, Nat.reduceLT, Nat.reduceLeDiff, Nat.reduceAdd, Nat.reduceMul, Nat.reduceSub, Nat.reduceBEq, ↓reduceIte, d4]) | refine k_of (by assumption) ?_ | (refine tr_skip ?_; try simp only [ex_seq, ex_block]))
            refine tr_cond rfl (fun ht => ?_) (fun hf => ?_)
            · cases ht
            · repeat (first | refine tr_seq_k fun _ _ => ?_ | (refine tr_region ?_; simp only [go_sem, reduceCtorEq, Nat.reduceEqDiff, Nat.reduceLT, Nat.reduceLeDiff, Nat.reduceAdd, Nat.reduceMul, Nat.reduceSub, Nat.reduceBEq, ↓reduceIte]) | refine k_of (by assumption) ?_ | (refine tr_skip ?_; try simp only [ex_seq, ex_block]) | (refine tr_ret ?_; try simp only [ex_seq_ret, ex_block_ret]))
              refine (hQ _ _ [.agg [.v (.string a.says), .v (.string a.pred), .v (.int .i64 a.n), .v (.bool a.a0.v), .v (.string a.a0.name), .v (.bool a.a1.v), .v (.string a.a1.name), .v (.bool a.a2.v), .v (.string a.a2.name), .v (.bool a.a3.v), .v (.string a.a3.name)], iA 0, iA 0] ?_ (fun m => rfl)).2 <;> simp only [go_sem, reduceCtorEq, Nat.reduceEqDiff, Nat.reduceLT, Nat.reduceLeDiff, Nat.reduceAdd, Nat.reduceMul, Nat.reduceSub, Nat.reduceBEq, ↓reduceIte, Tryd.f58]
        · cases hf
theorem parseGoal_does (s : ByteArray) (hz : s.size ≤ 1000000000) : Does Tryd.prog 27 [sA s] (fun m => (.tup [atA (goalParse s).1, iA (goalParse s).2.1, iA (goalParse s).2.2], m)) := by
  have c1 := one_does s hz
  generalize goalParse s = P at *
  obtain ⟨a, pos, e⟩ := P
  dsimp only at *
  refine does_of' Tryd.func27 rfl (by kernel_rfl) rfl Tryd.ntmps27 rfl rfl fun Q hQ => ?_
  repeat (first | refine tr_seq_k fun _ _ => ?_ | (refine tr_region ?_; simp only [go_sem, reduceCtorEq, Nat.reduceEqDiff, Nat.reduceLT, Nat.reduceLeDiff, Nat.reduceAdd, Nat.reduceMul, Nat.reduceSub, Nat.reduceBEq, ↓reduceIte]) | (refine call_of (c1) ?_ ?_; (first | rfl | simp only [go_sem, reduceCtorEq, Nat.reduceEqDiff, Nat.reduceLT, Nat.reduceLeDiff, Nat.reduceAdd, Nat.reduceMul, Nat.reduceSub, Nat.reduceBEq, ↓reduceIte, shut_col]); simp only [go_sem, reduceCtorEq, Nat.reduceEqDiff, Nat.reduceLT, Nat.reduceLeDiff, Nat.reduceAdd, Nat.reduceMul, Nat.reduceSub, Nat.reduceBEq, ↓reduceIte]) | refine k_of (by assumption) ?_ | (refine tr_ret ?_; try simp only [ex_seq_ret, ex_block_ret]))
  refine (hQ _ _ [.agg [.v (.string a.says), .v (.string a.pred), .v (.int .i64 a.n), .v (.bool a.a0.v), .v (.string a.a0.name), .v (.bool a.a1.v), .v (.string a.a1.name), .v (.bool a.a2.v), .v (.string a.a2.name), .v (.bool a.a3.v), .v (.string a.a3.name)], iA pos, iA e] ?_ (fun m => rfl)).2 <;> simp only [go_sem, reduceCtorEq, Nat.reduceEqDiff, Nat.reduceLT, Nat.reduceLeDiff, Nat.reduceAdd, Nat.reduceMul, Nat.reduceSub, Nat.reduceBEq, ↓reduceIte, Tryd.f27]
end Go.Proofs.YtaeehadibckcjaaDoor
namespace Go.Vs
open Go.Vs.Ab
def Stop (b : List UInt8) : Prop := ∀ c r, b = c :: r → varB c = false
inductive Lex : List UInt8 → List (List UInt8) → Prop
  | nil {b : List UInt8} (h : b.drop (skipC false b) = []) : Lex b []
  | cons {b : List UInt8} {c : UInt8} {t rest : List UInt8} {ts : List (List UInt8)} (h : b.drop (skipC false b) = c :: (t ++ rest))
      (ht : (kindOf c = 3 ∧ t = []) ∨ (kindOf c ≠ 3 ∧ kindOf c ≠ 0 ∧ runL (kindOf c) (c :: (t ++ rest)) = t.length + 1 ∧ t.length + 1 ≤ 255)) (hr : Lex rest ts) : Lex b ((c :: t) :: ts)
theorem toksF_step (s : ByteArray) (f i : Nat) (out : List Tk) : toksF s (f + 1) i out = if i < s.size then
      if (tokAt s i).2 ≠ 0 then (out, (i : Int), (tokAt s i).2)
      else toksF s f (skipAt s (i + (tokAt s i).1.text.size)) (out ++ [(tokAt s i).1])
    else (out, 0, 0) := rfl
theorem lex_toks {b : List UInt8} {ts : List (List UInt8)} (h : Lex b ts) : ∀ (s : ByteArray) (j : Nat), j ≤ s.size → (lts s).drop j = b → ∀ (f : Nat) (out : List Tk), s.size - skipAt s j < f → ∃ l, toksF s f (skipAt s j) out = (out ++ l, 0, 0) ∧ l.map (fun t => lts t.text) = ts := by
  induction h with
  | @nil b h =>
    intro s j hj hd f out hf
    obtain ⟨f, rfl⟩ : ∃ f', f = f' + 1 := ⟨f - 1, by omega⟩
    have hd2 : (lts s).drop (skipAt s j) = [] := by
      unfold skipAt
      rw [hd, ← List.drop_drop, hd]
      exact h
    have hge : s.size ≤ skipAt s j := by
      have := List.drop_eq_nil_iff.1 hd2
      rwa [lts_len] at this
    refine ⟨[], ?_, rfl⟩
    rw [toksF_step, if_neg (by omega), List.append_nil]
  | @cons b c t rest ts h ht _ ih =>
    intro s j hj hd f out hf
    obtain ⟨f, rfl⟩ : ∃ f', f = f' + 1 := ⟨f - 1, by omega⟩
    have hd2 : (lts s).drop (skipAt s j) = c :: (t ++ rest) := by
      unfold skipAt
      rw [hd, ← List.drop_drop, hd]
      exact h
    have hlt : skipAt s j < (lts s).length := by
      rcases Nat.lt_or_ge (skipAt s j) (lts s).length with h1 | h1
      · exact h1
      · rw [List.drop_eq_nil_of_le h1] at hd2
        cases hd2
    have hsz := lts_len s
    have hc : (lts s)[skipAt s j] = c := by
      have := drop_cons hlt
      rw [hd2] at this
      injection this with h1 _
      exact h1.symm
    have hlen : (lts s).length - skipAt s j = t.length + 1 + rest.length := by
      have := congrArg List.length hd2
      rw [List.length_drop, List.length_cons, List.length_append] at this
      omega
    have key : ∃ k : Int, tokAt s (skipAt s j) = (⟨k, s.extract (skipAt s j) (skipAt s j + (t.length + 1)), ((skipAt s j : Nat) : Int)⟩, 0) := by
      have hT := tokAt_of hlt
      rw [hc] at hT
      rcases ht with ⟨h3, rfl⟩ | ⟨h3, h0, hr, hl⟩
      · rw [if_pos h3] at hT
        exact ⟨3, hT⟩
      · have hrun : runAt (kindOf c) s (skipAt s j) = skipAt s j + (t.length + 1) := by
          unfold runAt
          rw [hd2, hr]
        rw [if_neg h3, if_neg h0, hrun, if_neg (by omega)] at hT
        exact ⟨_, hT⟩
    obtain ⟨k, hT⟩ := key
    have hsize : (s.extract (skipAt s j) (skipAt s j + (t.length + 1))).size = t.length + 1 := by
      rw [ext_size (by omega) (by omega)]
      omega
    have htext : lts (s.extract (skipAt s j) (skipAt s j + (t.length + 1))) = c :: t := by
      rw [lts_ext, hd2, Nat.add_sub_cancel_left]
      show c :: (t ++ rest).take t.length = c :: t
      rw [List.take_left]
    have hd3 : (lts s).drop (skipAt s j + (t.length + 1)) = rest := by
      rw [← List.drop_drop, hd2]
      show (t ++ rest).drop t.length = rest
      exact List.drop_left
    have hge := skipAt_ge s (skipAt s j + (t.length + 1))
    obtain ⟨l, h1, h2⟩ := ih s (skipAt s j + (t.length + 1)) (by omega) hd3 f (out ++ [⟨k, s.extract (skipAt s j) (skipAt s j + (t.length + 1)), ((skipAt s j : Nat) : Int)⟩]) (by omega)
    refine ⟨⟨k, s.extract (skipAt s j) (skipAt s j + (t.length + 1)), ((skipAt s j : Nat) : Int)⟩ :: l, ?_, ?_⟩
    · rw [toksF_step, if_pos (by omega), hT, if_neg (fun h => h rfl)]
      dsimp only
      rw [hsize, h1, List.append_assoc]
      rfl
    · rw [List.map_cons, h2]
      dsimp only
      rw [htext]
theorem lex_all {s : ByteArray} {ts : List (List UInt8)} (h : Lex (lts s) ts) (hz : s.size ≤ 65536) : (toksAll s).2.2 = 0 ∧ (toksAll s).1.map (fun t => lts t.text) = ts := by
  obtain ⟨l, h1, h2⟩ := lex_toks h s 0 (Nat.zero_le _) rfl (s.size + 1) [] (by omega)
  have ht : toks s = (l, 0, 0) := by
    unfold toks
    rw [if_neg (by omega), h1]
    rfl
  unfold toksAll
  rw [ht, if_neg (fun h => h rfl)]
  exact ⟨rfl, h2⟩
/-! ### bytes -/
theorem lower_low {c : UInt8} (h : (lowerB c || digB c) = true) : kindOf c = 1 ∧ blankB c = false ∧ ((c.toNat : Int) = 37) = False := by
  have hc : (97 ≤ c.toNat ∧ c.toNat ≤ 122) ∨ (48 ≤ c.toNat ∧ c.toNat ≤ 57) := by
    simpa [lowerB, digB] using h
  have h1 : signB c = false := by
    rw [Bool.eq_false_iff]
    intro hs
    simp only [signB, List.any_eq_true, decide_eq_true_eq] at hs
    obtain ⟨x, hx, he⟩ := hs
    have : x.toNat < 64 ∧ (x.toNat < 48 ∨ 57 < x.toNat) := by
      simp only [List.mem_cons, List.not_mem_nil, or_false] at hx
      rcases hx with rfl | rfl | rfl | rfl | rfl | rfl | rfl <;> decide
    omega
  have h2 : upperB c = false := by
    rw [Bool.eq_false_iff]
    intro hs
    simp only [upperB, Bool.and_eq_true, decide_eq_true_eq] at hs
    omega
  refine ⟨?_, ?_, eq_false (by omega)⟩
  · unfold kindOf
    rw [if_neg (by rw [h1]; exact Bool.false_ne_true), if_neg (by rw [h2]; exact Bool.false_ne_true), if_pos h]
  · rw [Bool.eq_false_iff]
    intro hs
    simp only [blankB, List.any_eq_true, decide_eq_true_eq] at hs
    obtain ⟨x, hx, he⟩ := hs
    have : x.toNat < 48 := by
      simp only [List.mem_cons, List.not_mem_nil, or_false] at hx
      rcases hx with rfl | rfl | rfl | rfl <;> decide
    omega
theorem upper_up {c : UInt8} (h : upperB c = true) : kindOf c = 2 ∧ blankB c = false ∧ ((c.toNat : Int) = 37) = False := by
  have hc : 65 ≤ c.toNat ∧ c.toNat ≤ 90 := by
    simpa [upperB] using h
  have h1 : signB c = false := by
    rw [Bool.eq_false_iff]
    intro hs
    simp only [signB, List.any_eq_true, decide_eq_true_eq] at hs
    obtain ⟨x, hx, he⟩ := hs
    have : x.toNat < 65 := by
      simp only [List.mem_cons, List.not_mem_nil, or_false] at hx
      rcases hx with rfl | rfl | rfl | rfl | rfl | rfl | rfl <;> decide
    omega
  refine ⟨?_, ?_, eq_false (by omega)⟩
  · unfold kindOf
    rw [if_neg (by rw [h1]; exact Bool.false_ne_true), if_pos h]
  · rw [Bool.eq_false_iff]
    intro hs
    simp only [blankB, List.any_eq_true, decide_eq_true_eq] at hs
    obtain ⟨x, hx, he⟩ := hs
    have : x.toNat < 48 := by
      simp only [List.mem_cons, List.not_mem_nil, or_false] at hx
      rcases hx with rfl | rfl | rfl | rfl <;> decide
    omega
theorem more1 (c : UInt8) : moreB 1 c = constB c := by
  unfold moreB constB
  rw [show decide ((1 : Int) = 2) = false from rfl, Bool.false_and, Bool.or_false]
theorem more2 (c : UInt8) : moreB 2 c = varB c := by
  unfold moreB varB
  rw [show decide ((2 : Int) = 2) = true from rfl, Bool.true_and]
  cases lowerB c <;> cases upperB c <;> cases digB c <;> cases underB c <;> rfl
theorem const_var {c : UInt8} (h : varB c = false) : constB c = false := by
  unfold varB at h
  unfold constB
  revert h
  cases lowerB c <;> cases upperB c <;> cases digB c <;> cases underB c <;> decide
theorem run_word {k : Int} : ∀ {w b : List UInt8}, (∀ c ∈ w, moreB k c = true) → (∀ c r, b = c :: r → moreB k c = false) → runL k (w ++ b) = w.length
  | [], [], _, _ => rfl
  | [], c :: r, _, hb => by
    unfold runL
    rw [List.nil_append, List.takeWhile_cons, if_neg (by rw [hb c r rfl]; exact Bool.false_ne_true)]
  | c :: w, b, hw, hb => by
    have ih := run_word (w := w) (fun x hx => hw x (by simp [hx])) hb
    unfold runL at *
    rw [List.cons_append, List.takeWhile_cons, if_pos (hw c (by simp)), List.length_cons, ih, List.length_cons]
/-! ### how texts are put together -/
theorem lex_blank {c : UInt8} {b : List UInt8} {ts : List (List UInt8)} (hc : blankB c = true) (h : Lex b ts) : Lex (c :: b) ts := by
  have e : (c :: b).drop (skipC false (c :: b)) = b.drop (skipC false b) := by
    rw [skipC, if_pos hc, Nat.add_comm]
    rfl
  cases h with
  | nil h => exact .nil (e.trans h)
  | cons h ht hr => exact .cons (e.trans h) ht hr
theorem skip0 {c : UInt8} {b : List UInt8} (hb : blankB c = false) (hp : ((c.toNat : Int) = 37) = False) : (c :: b).drop (skipC false (c :: b)) = c :: b := by
  rw [skipC, if_neg (by rw [hb]; exact Bool.false_ne_true), if_neg (by rw [hp]; exact id)]
  rfl
theorem lex_sign {c : UInt8} {b : List UInt8} {ts : List (List UInt8)} (hs : signB c = true) (hb : blankB c = false) (hp : ((c.toNat : Int) = 37) = False) (h : Lex b ts) : Lex (c :: b) ([c] :: ts) :=
  .cons (t := []) (skip0 hb hp) (Or.inl ⟨by unfold kindOf; rw [if_pos hs], rfl⟩) h
theorem lex_word {c : UInt8} {w b : List UInt8} {ts : List (List UInt8)} (hc : (lowerB c || digB c) = true) (hw : ∀ x ∈ w, constB x = true) (hl : w.length + 1 ≤ 255) (hs : Stop b) (h : Lex b ts) : Lex (c :: (w ++ b)) ((c :: w) :: ts) := by
  obtain ⟨h1, h2, h3⟩ := lower_low hc
  refine .cons (skip0 h2 h3) (Or.inr ⟨by rw [h1]; decide, by rw [h1]; decide, ?_, hl⟩) h
  rw [h1]
  have hcc : moreB 1 c = true := by
    rw [more1]; unfold constB; rw [hc]; rfl
  exact run_word (w := c :: w) (fun x hx => by
    rcases List.mem_cons.1 hx with rfl | hx
    · exact hcc
    · rw [more1]; exact hw x hx) (fun x r hx => by rw [more1]; exact const_var (hs x r hx))
theorem lex_var {c : UInt8} {w b : List UInt8} {ts : List (List UInt8)} (hc : upperB c = true) (hw : ∀ x ∈ w, varB x = true) (hl : w.length + 1 ≤ 255) (hs : Stop b) (h : Lex b ts) : Lex (c :: (w ++ b)) ((c :: w) :: ts) := by
  obtain ⟨h1, h2, h3⟩ := upper_up hc
  refine .cons (skip0 h2 h3) (Or.inr ⟨by rw [h1]; decide, by rw [h1]; decide, ?_, hl⟩) h
  rw [h1]
  have hcc : moreB 2 c = true := by
    rw [more2]; unfold varB; rw [hc]; cases lowerB c <;> rfl
  exact run_word (w := c :: w) (fun x hx => by
    rcases List.mem_cons.1 hx with rfl | hx
    · exact hcc
    · rw [more2]; exact hw x hx) (fun x r hx => by rw [more2]; exact hs x r hx)
def LS (x : ByteArray) (tx : List ByteArray) : Prop := ∀ b ts, Lex b ts → Lex (lts x ++ b) (tx.map lts ++ ts)
def LX (x : ByteArray) (tx : List ByteArray) : Prop := ∀ b ts, Stop b → Lex b ts → Lex (lts x ++ b) (tx.map lts ++ ts)
def SH (y : ByteArray) : Prop := ∃ c r, lts y = c :: r ∧ varB c = false
theorem SH.stop {y : ByteArray} (h : SH y) (b : List UInt8) : Stop (lts y ++ b) := fun c r e => by
  obtain ⟨d, q, h1, h2⟩ := h
  rw [h1] at e
  injection e with e _
  subst e
  exact h2
theorem SH.app {y : ByteArray} (h : SH y) (z : ByteArray) : SH (y ++ z) := by
  obtain ⟨d, q, h1, h2⟩ := h
  exact ⟨d, q ++ lts z, by rw [lts_app, h1]; rfl, h2⟩
theorem LS.nil : LS ⟨#[]⟩ [] := fun b ts h => h
theorem LS.app {x y : ByteArray} {tx ty : List ByteArray} (h : LS x tx) (k : LS y ty) : LS (x ++ y) (tx ++ ty) := fun b ts hb => by
  rw [lts_app, List.map_append, List.append_assoc, List.append_assoc]
  exact h _ _ (k b ts hb)
theorem LS.appX {x y : ByteArray} {tx ty : List ByteArray} (h : LS x tx) (k : LX y ty) : LX (x ++ y) (tx ++ ty) := fun b ts hs hb => by
  rw [lts_app, List.map_append, List.append_assoc, List.append_assoc]
  exact h _ _ (k b ts hs hb)
theorem LS.x {x : ByteArray} {tx : List ByteArray} (h : LS x tx) : LX x tx := fun b ts _ hb => h b ts hb
theorem LX.app {x y : ByteArray} {tx ty : List ByteArray} (h : LX x tx) (hy : SH y) (k : LS y ty) : LS (x ++ y) (tx ++ ty) := fun b ts hb => by
  rw [lts_app, List.map_append, List.append_assoc, List.append_assoc]
  exact h _ _ (hy.stop b) (k b ts hb)
theorem LX.appX {x y : ByteArray} {tx ty : List ByteArray} (h : LX x tx) (hy : y.size = 0 ∨ SH y) (k : LX y ty) : LX (x ++ y) (tx ++ ty) := fun b ts hs hb => by
  rw [lts_app, List.map_append, List.append_assoc, List.append_assoc]
  refine h _ _ ?_ (k b ts hs hb)
  rcases hy with hy | hy
  · have : lts y = [] := List.eq_nil_of_length_eq_zero (by rw [lts_len]; exact hy)
    rw [this]
    exact hs
  · exact hy.stop b
theorem LS.blank {c : UInt8} (hc : blankB c = true) : LS ⟨#[c]⟩ [] := fun b ts h => lex_blank hc h
theorem LS.sign {c : UInt8} (hs : signB c = true) (hb : blankB c = false) (hp : ((c.toNat : Int) = 37) = False) : LS ⟨#[c]⟩ [⟨#[c]⟩] := fun b ts h => lex_sign hs hb hp h
theorem lts_cons {x : ByteArray} (h : 0 < x.size) : ∃ c r, lts x = c :: r ∧ r.length + 1 = x.size ∧ ∀ p : UInt8 → Bool, headB p x = p c := by
  cases hl : lts x with
  | nil =>
    have := lts_len x
    rw [hl] at this
    simp at this
    omega
  | cons c r =>
    refine ⟨c, r, rfl, ?_, fun p => ?_⟩
    · have := lts_len x
      rw [hl] at this
      exact this
    · unfold headB
      rw [hl]
      rfl
theorem LX.const {x : ByteArray} (h : pconst0 x = true) (hh : headB (fun c => lowerB c || digB c) x = true) : LX x [x] := fun b ts hs hb => by
  obtain ⟨c, r, hl, hn, hp⟩ := lts_cons (headB_pos hh)
  rw [hp] at hh
  unfold pconst0 at h
  simp only [Bool.and_eq_true, decide_eq_true_eq, List.all_eq_true, hl] at h
  rw [show [x].map lts = [c :: r] by rw [List.map_singleton, hl], hl]
  exact lex_word hh (fun y hy => h.2 y (by simp [hy])) (by omega) hs hb
theorem pconstant_head {x : ByteArray} (h : pconst0 x = true) : headB (fun c => lowerB c || digB c) x = true := by
  unfold pconst0 at h
  simp only [Bool.and_eq_true, decide_eq_true_eq, List.all_eq_true] at h
  obtain ⟨c, r, hl, hn, hp⟩ := lts_cons (headB_pos h.1.2)
  have h1 := h.1.2
  rw [hp] at h1 ⊢
  have h2 := h.2 c (by rw [hl]; simp)
  unfold constB at h2
  revert h1 h2
  cases lowerB c <;> cases digB c <;> cases underB c <;> decide
theorem LX.pconst {x : ByteArray} (h : pconstant x = true) : LX x [x] := by
  unfold pconstant at h
  rw [Bool.and_eq_true] at h
  exact LX.const h.1 (pconstant_head h.1)
theorem LX.prin {x : ByteArray} (h : pprincipal x = true) : LX x [x] := by
  unfold pprincipal at h
  rw [Bool.and_eq_true] at h
  exact LX.pconst h.1
theorem LX.pvar {x : ByteArray} (h : pvariable x = true) : LX x [x] := fun b ts hs hb => by
  unfold pvariable at h
  simp only [Bool.and_eq_true, decide_eq_true_eq, List.all_eq_true] at h
  obtain ⟨c, r, hl, hn, hp⟩ := lts_cons (headB_pos h.1.2)
  have h1 := h.1.2
  rw [hp] at h1
  rw [show [x].map lts = [c :: r] by rw [List.map_singleton, hl], hl]
  exact lex_var h1 (fun y hy => h.2 y (by rw [hl]; simp [hy])) (by omega) hs hb
theorem LX.term {t : Tm} (h : ptermok t = true) : LX t.name [t.name] := by
  unfold ptermok at h
  split at h
  · exact LX.pvar h
  · exact LX.pconst h
theorem LS.toks {x : ByteArray} {tx : List ByteArray} (h : LS x tx) (hz : x.size ≤ 65536) : (toksAll x).2.2 = 0 ∧ (toksAll x).1.map Tk.text = tx := by
  have h1 := h [] [] (.nil rfl)
  rw [List.append_nil, List.append_nil] at h1
  obtain ⟨h2, h3⟩ := lex_all h1 hz
  refine ⟨h2, ?_⟩
  have inj : ∀ (l : List Tk) (t : List ByteArray), l.map (fun t => lts t.text) = t.map lts → l.map Tk.text = t := fun l => by
    induction l with
    | nil => intro t h; cases t with | nil => rfl | cons => cases h
    | cons a l ih =>
      intro t h
      cases t with
      | nil => cases h
      | cons b t =>
        simp only [List.map_cons] at h ⊢
        injection h with h4 h5
        rw [ih t h5, lts_inj h4]
  exact inj _ _ h3
end Go.Vs
