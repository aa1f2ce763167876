/-
  Part 1 of the proof's own texts: general lemmas and contracts of functions, laid one behind the other.
-/
import Derived.Test.YtaeehadibckcjaaDoorPRm0
set_option linter.unusedSimpArgs false
set_option linter.unusedVariables false
namespace Go.Proofs.YtaeehadibckcjaaDoor
open Go.RowKit Go.Vs Go.Vs.Ab
set_option maxRecDepth 100000
set_option maxHeartbeats 4000000
def tkC (t : Tk) : List CV := [.v (.int .i64 t.kind), .v (.string t.text), .v (.int .i64 t.at_)]
attribute [go_sem] tkC
def anyB (s : ByteArray) (c : UInt8) : Bool := (lts s).any fun x => decide ((x.toNat : Int) = (c.toNat : Int))
theorem in_does (s : ByteArray) (c : UInt8) (hz : s.size ≤ 1000) : Does Tryd.prog 87 [sA s, uA c] (fun m => (bA (anyB s c), m)) := by
  have lsz := lts_len s
  refine does_of' Tryd.func87 rfl (by kernel_rfl) rfl Tryd.ntmps87 rfl rfl fun Q hQ => ?_
  repeat (first | refine tr_seq_k fun _ _ => ?_ | (refine tr_region ?_; simp only [go_sem, reduceCtorEq, Nat.reduceEqDiff, Nat.reduceLT, Nat.reduceLeDiff, Nat.reduceAdd, Nat.reduceMul, Nat.reduceSub, Nat.reduceBEq, ↓reduceIte]) | refine k_of (by assumption) ?_ | refine tr_block ?_)
  refine tr_loop_k (σ := Nat) (fun k => [(0, sA s), (1, uA c), (5, iA k)]) (fun _ => ⟨[], []⟩)
    (fun k => k ≤ (lts s).length ∧ ((lts s).take k).any (fun x => decide ((x.toNat : Int) = (c.toNat : Int))) = false) (fun k => (lts s).length - k) 0 ⟨by omega, rfl⟩ ⟨rfl, rfl, rfl, trivial⟩ rfl ?_
  rintro k ⟨hk, hp⟩ K hK
  by_cases hkl : k < (lts s).length
  · have d1 : decide ((k : Int) < (s.size : Nat)) = true := decide_eq_true (by omega)
    have ix := idx_str s hkl
    have ws := wrap_succ (show k ≤ 1000000000 by omega)
    have hh := any_hit (p := fun x : UInt8 => decide ((x.toNat : Int) = (c.toNat : Int))) hkl
    have hnx := any_next (p := fun x : UInt8 => decide ((x.toNat : Int) = (c.toNat : Int))) hkl hp
    generalize (lts s)[k] = x at *
    cases d2 : decide ((x.toNat : Int) = (c.toNat : Int)) with
    | true =>
      have hr : anyB s c = true := hh d2
      repeat (first | refine tr_seq_k fun _ _ => ?_ | (refine tr_region ?_; simp only [go_sem, reduceCtorEq, Nat.reduceEqDiff, Nat.reduceLT, Nat.reduceLeDiff, Nat.reduceAdd, Nat.reduceMul, Nat.reduceSub, Nat.reduceBEq, ↓reduceIte, d1]) | refine k_of (by assumption) ?_)
      refine tr_cond rfl (fun ht => ?_) (fun hf => ?_)
      · repeat (first | refine tr_seq_k fun _ _ => ?_ | (refine tr_region ?_; simp only [go_sem, reduceCtorEq, Nat.reduceEqDiff, Nat.reduceLT, Nat.reduceLeDiff, Nat.reduceAdd, Nat.reduceMul, Nat.reduceSub, Nat.reduceBEq, ↓reduceIte, ix, d2]) | refine k_of (by assumption) ?_ | refine tr_block ?_ | (refine tr_skip ?_; try simp only [ex_seq, ex_block]))
        refine tr_cond rfl (fun ht => ?_) (fun hf => ?_)
        · repeat (first | refine tr_seq_k fun _ _ => ?_ | (refine tr_region ?_; simp only [go_sem, reduceCtorEq, Nat.reduceEqDiff, Nat.reduceLT, Nat.reduceLeDiff, Nat.reduceAdd, Nat.reduceMul, Nat.reduceSub, Nat.reduceBEq, ↓reduceIte]) | refine k_of (by assumption) ?_ | (refine tr_ret ?_; try simp only [ex_seq_ret, ex_block_ret]))
          refine (hQ _ _ [bA true] ?_ (fun m => ?_)).2 <;> simp only [go_sem, reduceCtorEq, Nat.reduceEqDiff, Nat.reduceLT, Nat.reduceLeDiff, Nat.reduceAdd, Nat.reduceMul, Nat.reduceSub, Nat.reduceBEq, ↓reduceIte, Tryd.f87, hr]
        · cases hf
      · cases hf
    | false =>
      repeat (first | refine tr_seq_k fun _ _ => ?_ | (refine tr_region ?_; simp only [go_sem, reduceCtorEq, Nat.reduceEqDiff, Nat.reduceLT, Nat.reduceLeDiff, Nat.reduceAdd, Nat.reduceMul, Nat.reduceSub, Nat.reduceBEq, ↓reduceIte, d1]) | refine k_of (by assumption) ?_)
      refine tr_cond rfl (fun ht => ?_) (fun hf => ?_)
      · repeat (first | refine tr_seq_k fun _ _ => ?_ | (refine tr_region ?_; simp only [go_sem, reduceCtorEq, Nat.reduceEqDiff, Nat.reduceLT, Nat.reduceLeDiff, Nat.reduceAdd, Nat.reduceMul, Nat.reduceSub, Nat.reduceBEq, ↓reduceIte, ix, d2]) | refine k_of (by assumption) ?_ | refine tr_block ?_ | (refine tr_skip ?_; try simp only [ex_seq, ex_block]))
        refine tr_cond rfl (fun ht => ?_) (fun hf => ?_)
        · cases ht
        · repeat (first | (refine tr_region ?_; simp only [go_sem, reduceCtorEq, Nat.reduceEqDiff, Nat.reduceLT, Nat.reduceLeDiff, Nat.reduceAdd, Nat.reduceMul, Nat.reduceSub, Nat.reduceBEq, ↓reduceIte, ws]) | refine k_of (by assumption) ?_ | (refine tr_skip ?_; try simp only [ex_seq, ex_block]))
          exact hK (k + 1) _ _ ⟨hkl, hnx d2⟩ ⟨⟨rfl, rfl, rfl, trivial⟩, Keep.refl _, rfl, rfl, Nat.le_refl _, Nat.le_refl _⟩ (by omega)
      · cases hf
  · have d1 : decide ((k : Int) < (s.size : Nat)) = false := decide_eq_false (by omega)
    obtain rfl : k = (lts s).length := by omega
    rw [List.take_length] at hp
    have hr : anyB s c = false := hp
    repeat (first | refine tr_seq_k fun _ _ => ?_ | (refine tr_region ?_; simp only [go_sem, reduceCtorEq, Nat.reduceEqDiff, Nat.reduceLT, Nat.reduceLeDiff, Nat.reduceAdd, Nat.reduceMul, Nat.reduceSub, Nat.reduceBEq, ↓reduceIte, d1]) | refine k_of (by assumption) ?_)
    refine tr_cond rfl (fun ht => ?_) (fun hf => ?_)
    · cases ht
    · repeat (first | refine tr_seq_k fun _ _ => ?_ | (refine tr_region ?_; simp only [go_sem, reduceCtorEq, Nat.reduceEqDiff, Nat.reduceLT, Nat.reduceLeDiff, Nat.reduceAdd, Nat.reduceMul, Nat.reduceSub, Nat.reduceBEq, ↓reduceIte]) | refine k_of (by assumption) ?_ | (refine tr_exit ?_; try simp only [ex_seq_exit, ex_block_exit, Nat.reduceEqDiff, if_true, if_false, ex_seq, ex_block, reduceCtorEq, ↓reduceIte]) | (refine tr_ret ?_; try simp only [ex_seq_ret, ex_block_ret]))
      refine (hQ _ _ [bA false] ?_ (fun m => ?_)).2 <;> simp only [go_sem, reduceCtorEq, Nat.reduceEqDiff, Nat.reduceLT, Nat.reduceLeDiff, Nat.reduceAdd, Nat.reduceMul, Nat.reduceSub, Nat.reduceBEq, ↓reduceIte, Tryd.f87, hr]
abbrev tBlank : ByteArray := ⟨#[32, 10, 9, 13]⟩
abbrev tSigns : ByteArray := ⟨#[40, 41, 44, 46, 58, 47, 63]⟩
theorem blank_does (c : UInt8) : Does Tryd.prog 87 [sA tBlank, uA c] (fun m => (bA (blankB c), m)) := in_does tBlank c (Nat.le_of_ble_eq_true rfl)
theorem sign_does (c : UInt8) : Does Tryd.prog 87 [sA tSigns, uA c] (fun m => (bA (signB c), m)) := in_does tSigns c (Nat.le_of_ble_eq_true rfl)
theorem more_does (kind : Int) (c : UInt8) : Does Tryd.prog 88 [iA kind, uA c] (fun m => (bA (moreB kind c), m)) := by
  have c1 := small_does c
  have c2 := digit_does c
  have c3 := great_does c
  have cu := under_int c
  unfold moreB
  cases h1 : lowerB c with
  | true =>
    rw [h1] at c1
    refine does_of' Tryd.func88 rfl (by kernel_rfl) rfl Tryd.ntmps88 rfl rfl fun Q hQ => ?_
    repeat (first | refine tr_seq_k fun _ _ => ?_ | (refine tr_region ?_; simp only [go_sem, reduceCtorEq, Nat.reduceEqDiff, Nat.reduceLT, Nat.reduceLeDiff, Nat.reduceAdd, Nat.reduceMul, Nat.reduceSub, Nat.reduceBEq, ↓reduceIte]) | (refine call_of (c1) ?_ ?_; (first | rfl | simp only [go_sem, reduceCtorEq, Nat.reduceEqDiff, Nat.reduceLT, Nat.reduceLeDiff, Nat.reduceAdd, Nat.reduceMul, Nat.reduceSub, Nat.reduceBEq, ↓reduceIte, shut_col]); simp only [go_sem, reduceCtorEq, Nat.reduceEqDiff, Nat.reduceLT, Nat.reduceLeDiff, Nat.reduceAdd, Nat.reduceMul, Nat.reduceSub, Nat.reduceBEq, ↓reduceIte]) | refine k_of (by assumption) ?_ | (refine tr_ret ?_; try simp only [ex_seq_ret, ex_block_ret]))
    refine (hQ _ _ [bA true] ?_ (fun m => rfl)).2 <;> simp only [go_sem, reduceCtorEq, Nat.reduceEqDiff, Nat.reduceLT, Nat.reduceLeDiff, Nat.reduceAdd, Nat.reduceMul, Nat.reduceSub, Nat.reduceBEq, ↓reduceIte, Tryd.f88]
  | false =>
    rw [h1] at c1
    cases h2 : digB c with
    | true =>
      rw [h2] at c2
      refine does_of' Tryd.func88 rfl (by kernel_rfl) rfl Tryd.ntmps88 rfl rfl fun Q hQ => ?_
      repeat (first | refine tr_seq_k fun _ _ => ?_ | (refine tr_region ?_; simp only [go_sem, reduceCtorEq, Nat.reduceEqDiff, Nat.reduceLT, Nat.reduceLeDiff, Nat.reduceAdd, Nat.reduceMul, Nat.reduceSub, Nat.reduceBEq, ↓reduceIte]) | (refine call_of (c1) ?_ ?_; (first | rfl | simp only [go_sem, reduceCtorEq, Nat.reduceEqDiff, Nat.reduceLT, Nat.reduceLeDiff, Nat.reduceAdd, Nat.reduceMul, Nat.reduceSub, Nat.reduceBEq, ↓reduceIte, shut_col]); simp only [go_sem, reduceCtorEq, Nat.reduceEqDiff, Nat.reduceLT, Nat.reduceLeDiff, Nat.reduceAdd, Nat.reduceMul, Nat.reduceSub, Nat.reduceBEq, ↓reduceIte]) | (refine call_of (c2) ?_ ?_; (first | rfl | simp only [go_sem, reduceCtorEq, Nat.reduceEqDiff, Nat.reduceLT, Nat.reduceLeDiff, Nat.reduceAdd, Nat.reduceMul, Nat.reduceSub, Nat.reduceBEq, ↓reduceIte, shut_col]); simp only [go_sem, reduceCtorEq, Nat.reduceEqDiff, Nat.reduceLT, Nat.reduceLeDiff, Nat.reduceAdd, Nat.reduceMul, Nat.reduceSub, Nat.reduceBEq, ↓reduceIte]) | refine k_of (by assumption) ?_ | (refine tr_ret ?_; try simp only [ex_seq_ret, ex_block_ret]))
      refine (hQ _ _ [bA true] ?_ (fun m => rfl)).2 <;> simp only [go_sem, reduceCtorEq, Nat.reduceEqDiff, Nat.reduceLT, Nat.reduceLeDiff, Nat.reduceAdd, Nat.reduceMul, Nat.reduceSub, Nat.reduceBEq, ↓reduceIte, Tryd.f88]
    | false =>
      rw [h2] at c2
      cases h3 : underB c with
      | true =>
        rw [h3] at cu
        refine does_of' Tryd.func88 rfl (by kernel_rfl) rfl Tryd.ntmps88 rfl rfl fun Q hQ => ?_
        repeat (first | refine tr_seq_k fun _ _ => ?_ | (refine tr_region ?_; simp only [go_sem, reduceCtorEq, Nat.reduceEqDiff, Nat.reduceLT, Nat.reduceLeDiff, Nat.reduceAdd, Nat.reduceMul, Nat.reduceSub, Nat.reduceBEq, ↓reduceIte, ← cu]) | (refine call_of (c1) ?_ ?_; (first | rfl | simp only [go_sem, reduceCtorEq, Nat.reduceEqDiff, Nat.reduceLT, Nat.reduceLeDiff, Nat.reduceAdd, Nat.reduceMul, Nat.reduceSub, Nat.reduceBEq, ↓reduceIte, ← cu, shut_col]); simp only [go_sem, reduceCtorEq, Nat.reduceEqDiff, Nat.reduceLT, Nat.reduceLeDiff, Nat.reduceAdd, Nat.reduceMul, Nat.reduceSub, Nat.reduceBEq, ↓reduceIte, ← cu]) | (refine call_of (c2) ?_ ?_; (first | rfl | simp only [go_sem, reduceCtorEq, Nat.reduceEqDiff, Nat.reduceLT, Nat.reduceLeDiff, Nat.reduceAdd, Nat.reduceMul, Nat.reduceSub, Nat.reduceBEq, ↓reduceIte, ← cu, shut_col]); simp only [go_sem, reduceCtorEq, Nat.reduceEqDiff, Nat.reduceLT, Nat.reduceLeDiff, Nat.reduceAdd, Nat.reduceMul, Nat.reduceSub, Nat.reduceBEq, ↓reduceIte, ← cu]) | refine k_of (by assumption) ?_ | (refine tr_ret ?_; try simp only [ex_seq_ret, ex_block_ret]))
        refine (hQ _ _ [bA true] ?_ (fun m => rfl)).2 <;> simp only [go_sem, reduceCtorEq, Nat.reduceEqDiff, Nat.reduceLT, Nat.reduceLeDiff, Nat.reduceAdd, Nat.reduceMul, Nat.reduceSub, Nat.reduceBEq, ↓reduceIte, Tryd.f88]
      | false =>
        rw [h3] at cu
        cases h4 : decide (kind = 2) with
        | false =>
          refine does_of' Tryd.func88 rfl (by kernel_rfl) rfl Tryd.ntmps88 rfl rfl fun Q hQ => ?_
          repeat (first | refine tr_seq_k fun _ _ => ?_ | (refine tr_region ?_; simp only [go_sem, reduceCtorEq, Nat.reduceEqDiff, Nat.reduceLT, Nat.reduceLeDiff, Nat.reduceAdd, Nat.reduceMul, Nat.reduceSub, Nat.reduceBEq, ↓reduceIte, ← cu, h4]) | (refine call_of (c1) ?_ ?_; (first | rfl | simp only [go_sem, reduceCtorEq, Nat.reduceEqDiff, Nat.reduceLT, Nat.reduceLeDiff, Nat.reduceAdd, Nat.reduceMul, Nat.reduceSub, Nat.reduceBEq, ↓reduceIte, ← cu, h4, shut_col]); simp only [go_sem, reduceCtorEq, Nat.reduceEqDiff, Nat.reduceLT, Nat.reduceLeDiff, Nat.reduceAdd, Nat.reduceMul, Nat.reduceSub, Nat.reduceBEq, ↓reduceIte, ← cu, h4]) | (refine call_of (c2) ?_ ?_; (first | rfl | simp only [go_sem, reduceCtorEq, Nat.reduceEqDiff, Nat.reduceLT, Nat.reduceLeDiff, Nat.reduceAdd, Nat.reduceMul, Nat.reduceSub, Nat.reduceBEq, ↓reduceIte, ← cu, h4, shut_col]); simp only [go_sem, reduceCtorEq, Nat.reduceEqDiff, Nat.reduceLT, Nat.reduceLeDiff, Nat.reduceAdd, Nat.reduceMul, Nat.reduceSub, Nat.reduceBEq, ↓reduceIte, ← cu, h4]) | refine k_of (by assumption) ?_ | (refine tr_ret ?_; try simp only [ex_seq_ret, ex_block_ret]))
          refine (hQ _ _ [bA false] ?_ (fun m => rfl)).2 <;> simp only [go_sem, reduceCtorEq, Nat.reduceEqDiff, Nat.reduceLT, Nat.reduceLeDiff, Nat.reduceAdd, Nat.reduceMul, Nat.reduceSub, Nat.reduceBEq, ↓reduceIte, Tryd.f88]
        | true =>
          cases h5 : upperB c
          all_goals
            rw [h5] at c3
            refine does_of' Tryd.func88 rfl (by kernel_rfl) rfl Tryd.ntmps88 rfl rfl fun Q hQ => ?_
            repeat (first | refine tr_seq_k fun _ _ => ?_ | (refine tr_region ?_; simp only [go_sem, reduceCtorEq, Nat.reduceEqDiff, Nat.reduceLT, Nat.reduceLeDiff, Nat.reduceAdd, Nat.reduceMul, Nat.reduceSub, Nat.reduceBEq, ↓reduceIte, ← cu, h4]) | (refine call_of (c1) ?_ ?_; (first | rfl | simp only [go_sem, reduceCtorEq, Nat.reduceEqDiff, Nat.reduceLT, Nat.reduceLeDiff, Nat.reduceAdd, Nat.reduceMul, Nat.reduceSub, Nat.reduceBEq, ↓reduceIte, ← cu, h4, shut_col]); simp only [go_sem, reduceCtorEq, Nat.reduceEqDiff, Nat.reduceLT, Nat.reduceLeDiff, Nat.reduceAdd, Nat.reduceMul, Nat.reduceSub, Nat.reduceBEq, ↓reduceIte, ← cu, h4]) | (refine call_of (c2) ?_ ?_; (first | rfl | simp only [go_sem, reduceCtorEq, Nat.reduceEqDiff, Nat.reduceLT, Nat.reduceLeDiff, Nat.reduceAdd, Nat.reduceMul, Nat.reduceSub, Nat.reduceBEq, ↓reduceIte, ← cu, h4, shut_col]); simp only [go_sem, reduceCtorEq, Nat.reduceEqDiff, Nat.reduceLT, Nat.reduceLeDiff, Nat.reduceAdd, Nat.reduceMul, Nat.reduceSub, Nat.reduceBEq, ↓reduceIte, ← cu, h4]) | (refine call_of (c3) ?_ ?_; (first | rfl | simp only [go_sem, reduceCtorEq, Nat.reduceEqDiff, Nat.reduceLT, Nat.reduceLeDiff, Nat.reduceAdd, Nat.reduceMul, Nat.reduceSub, Nat.reduceBEq, ↓reduceIte, ← cu, h4, shut_col]); simp only [go_sem, reduceCtorEq, Nat.reduceEqDiff, Nat.reduceLT, Nat.reduceLeDiff, Nat.reduceAdd, Nat.reduceMul, Nat.reduceSub, Nat.reduceBEq, ↓reduceIte, ← cu, h4]) | refine k_of (by assumption) ?_ | (refine tr_ret ?_; try simp only [ex_seq_ret, ex_block_ret]))
            refine (hQ _ _ [bA _] ?_ (fun m => rfl)).2 <;> simp only [go_sem, reduceCtorEq, Nat.reduceEqDiff, Nat.reduceLT, Nat.reduceLeDiff, Nat.reduceAdd, Nat.reduceMul, Nat.reduceSub, Nat.reduceBEq, ↓reduceIte, Tryd.f88]
theorem skip_does (s : ByteArray) (i : Nat) (hi : i ≤ s.size) (hz : s.size ≤ 1000000) : Does Tryd.prog 77 [sA s, iA i] (fun m => (iA (skipAt s i), m)) := by
  have lsz := lts_len s
  obtain ⟨T, hT⟩ : ∃ T, T = skipAt s i := ⟨_, rfl⟩
  rw [← hT]
  refine does_of' Tryd.func77 rfl (by kernel_rfl) rfl Tryd.ntmps77 rfl rfl fun Q hQ => ?_
  repeat (first | refine tr_seq_k fun _ _ => ?_ | (refine tr_region ?_; simp only [go_sem, reduceCtorEq, Nat.reduceEqDiff, Nat.reduceLT, Nat.reduceLeDiff, Nat.reduceAdd, Nat.reduceMul, Nat.reduceSub, Nat.reduceBEq, ↓reduceIte]) | refine k_of (by assumption) ?_ | refine tr_block ?_)
  refine tr_loop_k (σ := Nat) (fun j => [(0, sA s), (1, iA j)]) (fun _ => ⟨[], []⟩) (fun j => j ≤ s.size ∧ skipAt s j = T) (fun j => s.size - j) i ⟨hi, hT.symm⟩ ⟨rfl, rfl, trivial⟩ rfl ?_
  rintro j ⟨hj, hjT⟩ K hK
  by_cases hjl : j < (lts s).length
  · have d1 : decide ((j : Int) < (s.size : Nat)) = true := decide_eq_true (by omega)
    have ix := idx_str s hjl
    have ws := wrap_succ (show j ≤ 1000000000 by omega)
    have hb := skip_blank hjl
    have hr := skip_remark hjl
    have ho := skip_other hjl
    have hne : ∀ j2 (h : j2 < (lts s).length), ((lts s)[j2].toNat : Int) = 10 → ((lts s)[j].toNat : Int) = 37 → j2 ≠ j := fun j2 h h1 h2 e => by
      subst e
      rw [h1] at h2
      cases h2
    generalize (lts s)[j] = c at *
    have cI := blank_does c
    cases h1 : blankB c with
    | true =>
      rw [h1] at cI
      have hb := hb h1
      repeat (first | refine tr_seq_k fun _ _ => ?_ | (refine tr_region ?_; simp only [go_sem, reduceCtorEq, Nat.reduceEqDiff, Nat.reduceLT, Nat.reduceLeDiff, Nat.reduceAdd, Nat.reduceMul, Nat.reduceSub, Nat.reduceBEq, ↓reduceIte, d1]) | refine k_of (by assumption) ?_)
      refine tr_cond rfl (fun ht => ?_) (fun hf => ?_)
      · repeat (first | refine tr_seq_k fun _ _ => ?_ | (refine tr_region ?_; simp only [go_sem, reduceCtorEq, Nat.reduceEqDiff, Nat.reduceLT, Nat.reduceLeDiff, Nat.reduceAdd, Nat.reduceMul, Nat.reduceSub, Nat.reduceBEq, ↓reduceIte, ix]) | (refine call_of (cI) ?_ ?_; (first | rfl | simp only [go_sem, reduceCtorEq, Nat.reduceEqDiff, Nat.reduceLT, Nat.reduceLeDiff, Nat.reduceAdd, Nat.reduceMul, Nat.reduceSub, Nat.reduceBEq, ↓reduceIte, ix, shut_col]); simp only [go_sem, reduceCtorEq, Nat.reduceEqDiff, Nat.reduceLT, Nat.reduceLeDiff, Nat.reduceAdd, Nat.reduceMul, Nat.reduceSub, Nat.reduceBEq, ↓reduceIte, ix]) | refine k_of (by assumption) ?_ | refine tr_block ?_ | (refine tr_skip ?_; try simp only [ex_seq, ex_block]))
        refine tr_cond rfl (fun ht => ?_) (fun hf => ?_)
        · repeat ((refine tr_region ?_; simp only [go_sem, reduceCtorEq, Nat.reduceEqDiff, Nat.reduceLT, Nat.reduceLeDiff, Nat.reduceAdd, Nat.reduceMul, Nat.reduceSub, Nat.reduceBEq, ↓reduceIte, ws]))
          exact hK (j + 1) _ _ ⟨by omega, hb.trans hjT⟩ ⟨⟨rfl, rfl, trivial⟩, Keep.refl _, rfl, rfl, Nat.le_refl _, Nat.le_refl _⟩ (by omega)
        · cases hf
      · cases hf
    | false =>
      rw [h1] at cI
      cases d2 : decide ((c.toNat : Int) = 37) with
      | true =>
        have hr := hr h1 (of_decide_eq_true d2)
        have hne := fun j2 h h1 => hne j2 h h1 (of_decide_eq_true d2)
        repeat (first | refine tr_seq_k fun _ _ => ?_ | (refine tr_region ?_; simp only [go_sem, reduceCtorEq, Nat.reduceEqDiff, Nat.reduceLT, Nat.reduceLeDiff, Nat.reduceAdd, Nat.reduceMul, Nat.reduceSub, Nat.reduceBEq, ↓reduceIte, d1]) | refine k_of (by assumption) ?_)
        refine tr_cond rfl (fun ht => ?_) (fun hf => ?_)
        · repeat (first | refine tr_seq_k fun _ _ => ?_ | (refine tr_region ?_; simp only [go_sem, reduceCtorEq, Nat.reduceEqDiff, Nat.reduceLT, Nat.reduceLeDiff, Nat.reduceAdd, Nat.reduceMul, Nat.reduceSub, Nat.reduceBEq, ↓reduceIte, ix]) | (refine call_of (cI) ?_ ?_; (first | rfl | simp only [go_sem, reduceCtorEq, Nat.reduceEqDiff, Nat.reduceLT, Nat.reduceLeDiff, Nat.reduceAdd, Nat.reduceMul, Nat.reduceSub, Nat.reduceBEq, ↓reduceIte, ix, shut_col]); simp only [go_sem, reduceCtorEq, Nat.reduceEqDiff, Nat.reduceLT, Nat.reduceLeDiff, Nat.reduceAdd, Nat.reduceMul, Nat.reduceSub, Nat.reduceBEq, ↓reduceIte, ix]) | refine k_of (by assumption) ?_ | refine tr_block ?_ | (refine tr_skip ?_; try simp only [ex_seq, ex_block]))
          refine tr_cond rfl (fun ht => ?_) (fun hf => ?_)
          · cases ht
          · repeat (first | refine tr_seq_k fun _ _ => ?_ | (refine tr_region ?_; simp only [go_sem, reduceCtorEq, Nat.reduceEqDiff, Nat.reduceLT, Nat.reduceLeDiff, Nat.reduceAdd, Nat.reduceMul, Nat.reduceSub, Nat.reduceBEq, ↓reduceIte, ix, d2]) | refine k_of (by assumption) ?_)
            refine tr_cond rfl (fun ht => ?_) (fun hf => ?_)
            · repeat (refine tr_block ?_)
              refine tr_loop_k (σ := Nat) (fun j2 => [(0, sA s), (1, iA j2)]) (fun _ => ⟨[], []⟩) (fun j2 => j2 ≤ s.size ∧ skipR s j2 = T ∧ j ≤ j2) (fun j2 => s.size - j2) j ⟨hj, hr.trans hjT, Nat.le_refl _⟩ ⟨rfl, rfl, trivial⟩ rfl ?_
              rintro j2 ⟨hj2, hjT2, hjj⟩ K2 hK2
              by_cases hjl2 : j2 < (lts s).length
              · have d3 : decide ((j2 : Int) < (s.size : Nat)) = true := decide_eq_true (by omega)
                have ix2 := idx_str s hjl2
                have ws2 := wrap_succ (show j2 ≤ 1000000000 by omega)
                have hn := skipR_next hjl2
                have hl := skipR_nl hjl2
                have hne := hne j2 hjl2
                generalize (lts s)[j2] = c2 at *
                cases d4 : decide ((c2.toNat : Int) = 10) with
                | true =>
                  have hl := hl (of_decide_eq_true d4)
                  have hne := hne (of_decide_eq_true d4)
                  repeat (first | refine tr_seq_k fun _ _ => ?_ | (refine tr_region ?_; simp only [go_sem, reduceCtorEq, Nat.reduceEqDiff, Nat.reduceLT, Nat.reduceLeDiff, Nat.reduceAdd, Nat.reduceMul, Nat.reduceSub, Nat.reduceBEq, ↓reduceIte, d3, ix2, d4]) | refine k_of (by assumption) ?_)
                  refine tr_cond rfl (fun ht => ?_) (fun hf => ?_)
                  · cases ht
                  · repeat ((refine tr_exit ?_; try simp only [ex_seq_exit, ex_block_exit, Nat.reduceEqDiff, if_true, if_false, ex_seq, ex_block, reduceCtorEq, ↓reduceIte]))
                    exact hK j2 _ _ ⟨hj2, hl.trans hjT2⟩ ⟨⟨rfl, rfl, trivial⟩, Keep.refl _, rfl, rfl, Nat.le_refl _, Nat.le_refl _⟩ (by omega)
                | false =>
                  have hn := hn (of_decide_eq_false d4)
                  repeat (first | refine tr_seq_k fun _ _ => ?_ | (refine tr_region ?_; simp only [go_sem, reduceCtorEq, Nat.reduceEqDiff, Nat.reduceLT, Nat.reduceLeDiff, Nat.reduceAdd, Nat.reduceMul, Nat.reduceSub, Nat.reduceBEq, ↓reduceIte, d3, ix2, d4]) | refine k_of (by assumption) ?_)
                  refine tr_cond rfl (fun ht => ?_) (fun hf => ?_)
                  · repeat (first | (refine tr_region ?_; simp only [go_sem, reduceCtorEq, Nat.reduceEqDiff, Nat.reduceLT, Nat.reduceLeDiff, Nat.reduceAdd, Nat.reduceMul, Nat.reduceSub, Nat.reduceBEq, ↓reduceIte, ws2]) | refine k_of (by assumption) ?_ | refine tr_block ?_ | (refine tr_skip ?_; try simp only [ex_seq, ex_block]))
                    exact hK2 (j2 + 1) _ _ ⟨by omega, hn.trans hjT2, by omega⟩ ⟨⟨rfl, rfl, trivial⟩, Keep.refl _, rfl, rfl, Nat.le_refl _, Nat.le_refl _⟩ (by omega)
                  · cases hf
              · have d3 : decide ((j2 : Int) < (s.size : Nat)) = false := decide_eq_false (by omega)
                have hl := skipR_end hjl2
                repeat (first | refine tr_seq_k fun _ _ => ?_ | (refine tr_region ?_; simp only [go_sem, reduceCtorEq, Nat.reduceEqDiff, Nat.reduceLT, Nat.reduceLeDiff, Nat.reduceAdd, Nat.reduceMul, Nat.reduceSub, Nat.reduceBEq, ↓reduceIte, d3]) | refine k_of (by assumption) ?_)
                refine tr_cond rfl (fun ht => ?_) (fun hf => ?_)
                · cases ht
                · repeat ((refine tr_exit ?_; try simp only [ex_seq_exit, ex_block_exit, Nat.reduceEqDiff, if_true, if_false, ex_seq, ex_block, reduceCtorEq, ↓reduceIte]))
                  exact hK j2 _ _ ⟨hj2, hl.trans hjT2⟩ ⟨⟨rfl, rfl, trivial⟩, Keep.refl _, rfl, rfl, Nat.le_refl _, Nat.le_refl _⟩ (by omega)
            · cases hf
        · cases hf
      | false =>
        have ho := ho h1 (of_decide_eq_false d2)
        have hv : T = j := hjT.symm.trans ho
        repeat (first | refine tr_seq_k fun _ _ => ?_ | (refine tr_region ?_; simp only [go_sem, reduceCtorEq, Nat.reduceEqDiff, Nat.reduceLT, Nat.reduceLeDiff, Nat.reduceAdd, Nat.reduceMul, Nat.reduceSub, Nat.reduceBEq, ↓reduceIte, d1]) | refine k_of (by assumption) ?_)
        refine tr_cond rfl (fun ht => ?_) (fun hf => ?_)
        · repeat (first | refine tr_seq_k fun _ _ => ?_ | (refine tr_region ?_; simp only [go_sem, reduceCtorEq, Nat.reduceEqDiff, Nat.reduceLT, Nat.reduceLeDiff, Nat.reduceAdd, Nat.reduceMul, Nat.reduceSub, Nat.reduceBEq, ↓reduceIte, ix]) | (refine call_of (cI) ?_ ?_; (first | rfl | simp only [go_sem, reduceCtorEq, Nat.reduceEqDiff, Nat.reduceLT, Nat.reduceLeDiff, Nat.reduceAdd, Nat.reduceMul, Nat.reduceSub, Nat.reduceBEq, ↓reduceIte, ix, shut_col]); simp only [go_sem, reduceCtorEq, Nat.reduceEqDiff, Nat.reduceLT, Nat.reduceLeDiff, Nat.reduceAdd, Nat.reduceMul, Nat.reduceSub, Nat.reduceBEq, ↓reduceIte, ix]) | refine k_of (by assumption) ?_ | refine tr_block ?_ | (refine tr_skip ?_; try simp only [ex_seq, ex_block]))
          refine tr_cond rfl (fun ht => ?_) (fun hf => ?_)
          · cases ht
          · repeat (first | refine tr_seq_k fun _ _ => ?_ | (refine tr_region ?_; simp only [go_sem, reduceCtorEq, Nat.reduceEqDiff, Nat.reduceLT, Nat.reduceLeDiff, Nat.reduceAdd, Nat.reduceMul, Nat.reduceSub, Nat.reduceBEq, ↓reduceIte, ix, d2]) | refine k_of (by assumption) ?_)
            refine tr_cond rfl (fun ht => ?_) (fun hf => ?_)
            · cases ht
            · repeat (first | refine tr_seq_k fun _ _ => ?_ | (refine tr_region ?_; simp only [go_sem, reduceCtorEq, Nat.reduceEqDiff, Nat.reduceLT, Nat.reduceLeDiff, Nat.reduceAdd, Nat.reduceMul, Nat.reduceSub, Nat.reduceBEq, ↓reduceIte]) | refine k_of (by assumption) ?_ | (refine tr_ret ?_; try simp only [ex_seq_ret, ex_block_ret]))
              refine (hQ _ _ [iA j] ?_ (fun m => by rw [hv]; rfl)).2 <;> simp only [go_sem, reduceCtorEq, Nat.reduceEqDiff, Nat.reduceLT, Nat.reduceLeDiff, Nat.reduceAdd, Nat.reduceMul, Nat.reduceSub, Nat.reduceBEq, ↓reduceIte, Tryd.f77]
        · cases hf
  · have d1 : decide ((j : Int) < (s.size : Nat)) = false := decide_eq_false (by omega)
    have he := skip_end hjl
    have hv : T = j := hjT.symm.trans he
    repeat (first | refine tr_seq_k fun _ _ => ?_ | (refine tr_region ?_; simp only [go_sem, reduceCtorEq, Nat.reduceEqDiff, Nat.reduceLT, Nat.reduceLeDiff, Nat.reduceAdd, Nat.reduceMul, Nat.reduceSub, Nat.reduceBEq, ↓reduceIte, d1]) | refine k_of (by assumption) ?_)
    refine tr_cond rfl (fun ht => ?_) (fun hf => ?_)
    · cases ht
    · repeat (first | refine tr_seq_k fun _ _ => ?_ | (refine tr_region ?_; simp only [go_sem, reduceCtorEq, Nat.reduceEqDiff, Nat.reduceLT, Nat.reduceLeDiff, Nat.reduceAdd, Nat.reduceMul, Nat.reduceSub, Nat.reduceBEq, ↓reduceIte]) | refine k_of (by assumption) ?_ | (refine tr_exit ?_; try simp only [ex_seq_exit, ex_block_exit, Nat.reduceEqDiff, if_true, if_false, ex_seq, ex_block, reduceCtorEq, ↓reduceIte]) | (refine tr_ret ?_; try simp only [ex_seq_ret, ex_block_ret]))
      refine (hQ _ _ [iA j] ?_ (fun m => by rw [hv]; rfl)).2 <;> simp only [go_sem, reduceCtorEq, Nat.reduceEqDiff, Nat.reduceLT, Nat.reduceLeDiff, Nat.reduceAdd, Nat.reduceMul, Nat.reduceSub, Nat.reduceBEq, ↓reduceIte, Tryd.f77]
end Go.Proofs.YtaeehadibckcjaaDoor
namespace Go.Proofs.YtaeehadibckcjaaDoor
open Go.RowKit Go.Vs Go.Vs.Ab
set_option maxRecDepth 100000
set_option maxHeartbeats 4000000
theorem cut_ab {s : ByteArray} {a b : Nat} (h : a ≤ b) (h2 : b ≤ s.size) : pureVal Tryd.prog (Instr.sliceAt 9 (.string s) (some (.int .i64 (a : Int))) (some (.int .i64 (b : Int))) none) = some (.string (s.extract a b)) := by
  have hb : pureVal Tryd.prog (Instr.sliceBounds false s.size s.size (some (.int .i64 (a : Int))) (some (.int .i64 (b : Int))) none) = some (a, b, s.size) := by
    unfold Instr.sliceBounds Instr.sliceBound
    simp only [pv_bind, pv_pure, Option.bind_some, asIntOf]
    rw [if_pos ⟨by omega, by omega⟩]
    simp [pv_pure, h]
  unfold Instr.sliceAt
  rw [pv_bind, pv_under Tryd.underlying9]
  show pureVal Tryd.prog (Instr.slice 9 (.string s) (some (.int .i64 (a : Int))) (some (.int .i64 (b : Int))) none) = _
  unfold Instr.slice
  rw [pv_bind, pv_under Tryd.underlying9]
  simp only [Option.bind_some, Option.isSome_none, Bool.false_eq_true, if_false, pv_bind, hb, pv_pure]
abbrev tkA (t : Tk) : AV := .agg (tkC t)
theorem kind_sign {c : UInt8} (h : signB c = true) : kindOf c = 3 := by
  unfold kindOf
  rw [if_pos h]
theorem kind_great {c : UInt8} (h : signB c = false) (h2 : upperB c = true) : kindOf c = 2 := by
  unfold kindOf
  rw [if_neg (by rw [h]; exact Bool.false_ne_true), if_pos h2]
theorem kind_word {c : UInt8} (h : signB c = false) (h2 : upperB c = false) (h3 : (lowerB c || digB c) = true) : kindOf c = 1 := by
  unfold kindOf
  rw [if_neg (by rw [h]; exact Bool.false_ne_true), if_neg (by rw [h2]; exact Bool.false_ne_true), if_pos h3]
theorem kind_none {c : UInt8} (h : signB c = false) (h2 : upperB c = false) (h3 : (lowerB c || digB c) = false) : kindOf c = 0 := by
  unfold kindOf
  rw [if_neg (by rw [h]; exact Bool.false_ne_true), if_neg (by rw [h2]; exact Bool.false_ne_true), if_neg (by rw [h3]; exact Bool.false_ne_true)]
theorem token_does (s : ByteArray) (i : Nat) (hi : i < s.size) (hz : s.size ≤ 1000000) : Does Tryd.prog 78 [sA s, iA i] (fun m => (.tup [tkA (tokAt s i).1, iA (tokAt s i).2], m)) := by
  have lsz := lts_len s
  have hil : i < (lts s).length := by omega
  have hT := tokAt_of hil
  have ix := idx_str s hil
  have ws := wrap_succ (show i ≤ 1000000000 by omega)
  have cu1 := cut_ab (s := s) (a := i) (b := i + 1) (by omega) (by omega)
  have hkm := kind_more (c := (lts s)[i])
  have k3 := kind_sign (c := (lts s)[i])
  have k2 := kind_great (c := (lts s)[i])
  have k1 := kind_word (c := (lts s)[i])
  have k0 := kind_none (c := (lts s)[i])
  generalize (lts s)[i] = c at *
  have cI := sign_does c
  have cG := great_does c
  have cS := small_does c
  have cD := digit_does c
  cases h1 : signB c with
  | true =>
    rw [h1] at cI
    rw [hT, if_pos (k3 h1)]
    refine does_of' Tryd.func78 rfl (by kernel_rfl) rfl Tryd.ntmps78 rfl rfl fun Q hQ => ?_
    repeat (first | refine tr_seq_k fun _ _ => ?_ | (refine tr_region ?_; simp only [go_sem, reduceCtorEq, Nat.reduceEqDiff, Nat.reduceLT, Nat.reduceLeDiff, Nat.reduceAdd, Nat.reduceMul, Nat.reduceSub, Nat.reduceBEq, ↓reduceIte, ix]) | (refine call_of (cI) ?_ ?_; (first | rfl | simp only [go_sem, reduceCtorEq, Nat.reduceEqDiff, Nat.reduceLT, Nat.reduceLeDiff, Nat.reduceAdd, Nat.reduceMul, Nat.reduceSub, Nat.reduceBEq, ↓reduceIte, ix, shut_col]); simp only [go_sem, reduceCtorEq, Nat.reduceEqDiff, Nat.reduceLT, Nat.reduceLeDiff, Nat.reduceAdd, Nat.reduceMul, Nat.reduceSub, Nat.reduceBEq, ↓reduceIte, ix]) | refine k_of (by assumption) ?_ | refine tr_block ?_)
    refine tr_cond rfl (fun ht => ?_) (fun hf => ?_)
    · repeat (first | refine tr_seq_k fun _ _ => ?_ | (refine tr_region ?_; simp only [go_sem, reduceCtorEq, Nat.reduceEqDiff, Nat.reduceLT, Nat.reduceLeDiff, Nat.reduceAdd, Nat.reduceMul, Nat.reduceSub, Nat.reduceBEq, ↓reduceIte, ws, cu1]) | refine k_of (by assumption) ?_ | (refine tr_ret ?_; try simp only [ex_seq_ret, ex_block_ret]))
      refine (hQ _ _ [.agg [.v (.int .i64 3), .v (.string (s.extract i (i + 1))), .v (.int .i64 i)], iA 0] ?_ (fun m => rfl)).2 <;> simp only [go_sem, reduceCtorEq, Nat.reduceEqDiff, Nat.reduceLT, Nat.reduceLeDiff, Nat.reduceAdd, Nat.reduceMul, Nat.reduceSub, Nat.reduceBEq, ↓reduceIte, Tryd.f78]
    · cases hf
  | false =>
    rw [h1] at cI
    have k2 := k2 h1
    have k1 := k1 h1
    have k0 := k0 h1
    cases h2 : upperB c with
    | true =>
      rw [h2] at cG
      have hk := k2 h2
      refine does_of' Tryd.func78 rfl (by kernel_rfl) rfl Tryd.ntmps78 rfl rfl fun Q hQ => ?_
      repeat (first | refine tr_seq_k fun _ _ => ?_ | (refine tr_region ?_; simp only [go_sem, reduceCtorEq, Nat.reduceEqDiff, Nat.reduceLT, Nat.reduceLeDiff, Nat.reduceAdd, Nat.reduceMul, Nat.reduceSub, Nat.reduceBEq, ↓reduceIte, ix]) | (refine call_of (cI) ?_ ?_; (first | rfl | simp only [go_sem, reduceCtorEq, Nat.reduceEqDiff, Nat.reduceLT, Nat.reduceLeDiff, Nat.reduceAdd, Nat.reduceMul, Nat.reduceSub, Nat.reduceBEq, ↓reduceIte, ix, shut_col]); simp only [go_sem, reduceCtorEq, Nat.reduceEqDiff, Nat.reduceLT, Nat.reduceLeDiff, Nat.reduceAdd, Nat.reduceMul, Nat.reduceSub, Nat.reduceBEq, ↓reduceIte, ix]) | refine k_of (by assumption) ?_ | refine tr_block ?_)
      refine tr_cond rfl (fun ht => ?_) (fun hf => ?_)
      · cases ht
      · repeat (first | refine tr_seq_k fun _ _ => ?_ | (refine tr_region ?_; simp only [go_sem, reduceCtorEq, Nat.reduceEqDiff, Nat.reduceLT, Nat.reduceLeDiff, Nat.reduceAdd, Nat.reduceMul, Nat.reduceSub, Nat.reduceBEq, ↓reduceIte, ix]) | (refine call_of (cG) ?_ ?_; (first | rfl | simp only [go_sem, reduceCtorEq, Nat.reduceEqDiff, Nat.reduceLT, Nat.reduceLeDiff, Nat.reduceAdd, Nat.reduceMul, Nat.reduceSub, Nat.reduceBEq, ↓reduceIte, ix, shut_col]); simp only [go_sem, reduceCtorEq, Nat.reduceEqDiff, Nat.reduceLT, Nat.reduceLeDiff, Nat.reduceAdd, Nat.reduceMul, Nat.reduceSub, Nat.reduceBEq, ↓reduceIte, ix]) | refine k_of (by assumption) ?_)
        refine tr_cond rfl (fun ht => ?_) (fun hf => ?_)
        · repeat (first | refine tr_seq_k fun _ _ => ?_ | (refine tr_region ?_; simp only [go_sem, reduceCtorEq, Nat.reduceEqDiff, Nat.reduceLT, Nat.reduceLeDiff, Nat.reduceAdd, Nat.reduceMul, Nat.reduceSub, Nat.reduceBEq, ↓reduceIte]) | refine k_of (by assumption) ?_ | refine tr_block ?_)
          rw [hk] at hT hkm
          rw [if_neg (by decide), if_neg (by decide)] at hT
          refine tr_loop_k (σ := Nat) (fun j => [(0, sA s), (1, iA i), (4, .ptr 0 0), (6, .ptr 1 0), (7, iA j)]) (fun _ => ⟨[⟨false, [iA 0, sA ⟨#[]⟩, iA 0]⟩, ⟨false, [iA 2, sA ⟨#[]⟩, iA i]⟩], []⟩) (fun j => i ≤ j ∧ j ≤ s.size ∧ runAt 2 s j = runAt 2 s i) (fun j => s.size - j) i ⟨Nat.le_refl _, by omega, rfl⟩ ⟨rfl, rfl, rfl, rfl, rfl, trivial⟩ rfl ?_
          rintro j ⟨hij, hj, hjT⟩ K hK
          by_cases hjl : j < (lts s).length
          · have d3 : decide ((j : Int) < (s.size : Nat)) = true := decide_eq_true (by omega)
            have ix2 := idx_str s hjl
            have ws2 := wrap_succ (show j ≤ 1000000000 by omega)
            have hn2 := run_next (kind := 2) hjl
            have hs2 := run_stop (kind := 2) hjl
            generalize (lts s)[j] = c2 at *
            have cM := more_does 2 c2
            cases h4 : moreB 2 c2 with
            | true =>
              rw [h4] at cM
              repeat (first | refine tr_seq_k fun _ _ => ?_ | (refine tr_draw (id := 10) follows 10000 [10] [0, 1, 2, 3, 4, 5, 6, 7, 8, 9, 10, 11] (by kernel_rfl) ?_; simp only [go_sem, reduceCtorEq, Nat.reduceEqDiff, Nat.reduceLT, Nat.reduceLeDiff, Nat.reduceAdd, Nat.reduceMul, Nat.reduceSub, Nat.reduceBEq, ↓reduceIte, d3, ix2]) | (refine call_of (cM) ?_ ?_; (first | rfl | simp only [go_sem, reduceCtorEq, Nat.reduceEqDiff, Nat.reduceLT, Nat.reduceLeDiff, Nat.reduceAdd, Nat.reduceMul, Nat.reduceSub, Nat.reduceBEq, ↓reduceIte, d3, ix2, shut_col]); simp only [go_sem, reduceCtorEq, Nat.reduceEqDiff, Nat.reduceLT, Nat.reduceLeDiff, Nat.reduceAdd, Nat.reduceMul, Nat.reduceSub, Nat.reduceBEq, ↓reduceIte, d3, ix2]) | refine k_of (by assumption) ?_)
              refine tr_cond rfl (fun ht => ?_) (fun hf => ?_)
              · repeat (first | (refine tr_region ?_; simp only [go_sem, reduceCtorEq, Nat.reduceEqDiff, Nat.reduceLT, Nat.reduceLeDiff, Nat.reduceAdd, Nat.reduceMul, Nat.reduceSub, Nat.reduceBEq, ↓reduceIte, ws2]) | refine k_of (by assumption) ?_ | refine tr_block ?_ | (refine tr_skip ?_; try simp only [ex_seq, ex_block]))
                exact hK (j + 1) _ _ ⟨by omega, by omega, (hn2 h4).trans hjT⟩ ⟨⟨rfl, rfl, rfl, rfl, rfl, trivial⟩, Keep.refl _, rfl, rfl, Nat.le_refl _, Nat.le_refl _⟩ (by omega)
              · cases hf
            | false =>
              rw [h4] at cM
              have hv : runAt 2 s i = j := hjT.symm.trans (hs2 h4)
              repeat (first | refine tr_seq_k fun _ _ => ?_ | (refine tr_draw (id := 10) follows 10000 [10] [0, 1, 2, 3, 4, 5, 6, 7, 8, 9, 10, 11] (by kernel_rfl) ?_; simp only [go_sem, reduceCtorEq, Nat.reduceEqDiff, Nat.reduceLT, Nat.reduceLeDiff, Nat.reduceAdd, Nat.reduceMul, Nat.reduceSub, Nat.reduceBEq, ↓reduceIte, d3, ix2]) | (refine call_of (cM) ?_ ?_; (first | rfl | simp only [go_sem, reduceCtorEq, Nat.reduceEqDiff, Nat.reduceLT, Nat.reduceLeDiff, Nat.reduceAdd, Nat.reduceMul, Nat.reduceSub, Nat.reduceBEq, ↓reduceIte, d3, ix2, shut_col]); simp only [go_sem, reduceCtorEq, Nat.reduceEqDiff, Nat.reduceLT, Nat.reduceLeDiff, Nat.reduceAdd, Nat.reduceMul, Nat.reduceSub, Nat.reduceBEq, ↓reduceIte, d3, ix2]) | refine k_of (by assumption) ?_)
              refine tr_cond rfl (fun ht => ?_) (fun hf => ?_)
              · cases ht
              · rw [hv] at hT
                have w5 : IntKind.i64.wrap ((j : Int) - (i : Nat)) = ((j - i : Nat) : Int) := by rw [wrap_in (by omega)]; omega
                by_cases h5 : 255 < j - i
                · rw [if_pos h5] at hT
                  have d5 : decide (((j - i : Nat) : Int) > 255) = true := decide_eq_true (by omega)
                  rw [hT] at hQ
                  repeat (first | refine tr_seq_k fun _ _ => ?_ | (refine tr_region ?_; simp only [go_sem, reduceCtorEq, Nat.reduceEqDiff, Nat.reduceLT, Nat.reduceLeDiff, Nat.reduceAdd, Nat.reduceMul, Nat.reduceSub, Nat.reduceBEq, ↓reduceIte, w5, d5]) | refine k_of (by assumption) ?_ | (refine tr_exit ?_; try simp only [ex_seq_exit, ex_block_exit, Nat.reduceEqDiff, if_true, if_false, ex_seq, ex_block, reduceCtorEq, ↓reduceIte]))
                  refine tr_cond rfl (fun ht => ?_) (fun hf => ?_)
                  · repeat (first | refine tr_seq_k fun _ _ => ?_ | (refine tr_region ?_; simp only [go_sem, reduceCtorEq, Nat.reduceEqDiff, Nat.reduceLT, Nat.reduceLeDiff, Nat.reduceAdd, Nat.reduceMul, Nat.reduceSub, Nat.reduceBEq, ↓reduceIte]) | refine k_of (by assumption) ?_ | (refine tr_ret ?_; try simp only [ex_seq_ret, ex_block_ret]))
                    refine (hQ _ _ [.agg [.v (.int .i64 0), .v (.string ⟨#[]⟩), .v (.int .i64 0)], iA 4] ?_ (fun m => rfl)).2 <;> simp only [go_sem, reduceCtorEq, Nat.reduceEqDiff, Nat.reduceLT, Nat.reduceLeDiff, Nat.reduceAdd, Nat.reduceMul, Nat.reduceSub, Nat.reduceBEq, ↓reduceIte, Tryd.f78]
                  · cases hf
                · rw [if_neg h5] at hT
                  have d5 : decide (((j - i : Nat) : Int) > 255) = false := decide_eq_false (by omega)
                  have cu := cut_ab (s := s) hij hj
                  rw [hT] at hQ
                  repeat (first | refine tr_seq_k fun _ _ => ?_ | (refine tr_region ?_; simp only [go_sem, reduceCtorEq, Nat.reduceEqDiff, Nat.reduceLT, Nat.reduceLeDiff, Nat.reduceAdd, Nat.reduceMul, Nat.reduceSub, Nat.reduceBEq, ↓reduceIte, w5, d5]) | refine k_of (by assumption) ?_ | (refine tr_exit ?_; try simp only [ex_seq_exit, ex_block_exit, Nat.reduceEqDiff, if_true, if_false, ex_seq, ex_block, reduceCtorEq, ↓reduceIte]))
                  refine tr_cond rfl (fun ht => ?_) (fun hf => ?_)
                  · cases ht
                  · repeat (first | refine tr_seq_k fun _ _ => ?_ | (refine tr_region ?_; simp only [go_sem, reduceCtorEq, Nat.reduceEqDiff, Nat.reduceLT, Nat.reduceLeDiff, Nat.reduceAdd, Nat.reduceMul, Nat.reduceSub, Nat.reduceBEq, ↓reduceIte, cu]) | refine k_of (by assumption) ?_ | (refine tr_skip ?_; try simp only [ex_seq, ex_block]) | (refine tr_ret ?_; try simp only [ex_seq_ret, ex_block_ret]))
                    refine (hQ _ _ [.agg [.v (.int .i64 2), .v (.string (s.extract i j)), .v (.int .i64 i)], iA 0] ?_ (fun m => rfl)).2 <;> simp only [go_sem, reduceCtorEq, Nat.reduceEqDiff, Nat.reduceLT, Nat.reduceLeDiff, Nat.reduceAdd, Nat.reduceMul, Nat.reduceSub, Nat.reduceBEq, ↓reduceIte, Tryd.f78]
          · have d3 : decide ((j : Int) < (s.size : Nat)) = false := decide_eq_false (by omega)
            have hv : runAt 2 s i = j := hjT.symm.trans (run_end hjl)
            repeat (first | refine tr_seq_k fun _ _ => ?_ | (refine tr_draw (id := 10) follows 10000 [10] [0, 1, 2, 3, 4, 5, 6, 7, 8, 9, 10, 11] (by kernel_rfl) ?_; simp only [go_sem, reduceCtorEq, Nat.reduceEqDiff, Nat.reduceLT, Nat.reduceLeDiff, Nat.reduceAdd, Nat.reduceMul, Nat.reduceSub, Nat.reduceBEq, ↓reduceIte, d3]) | refine k_of (by assumption) ?_)
            refine tr_cond rfl (fun ht => ?_) (fun hf => ?_)
            · cases ht
            · rw [hv] at hT
              have w5 : IntKind.i64.wrap ((j : Int) - (i : Nat)) = ((j - i : Nat) : Int) := by rw [wrap_in (by omega)]; omega
              by_cases h5 : 255 < j - i
              · rw [if_pos h5] at hT
                have d5 : decide (((j - i : Nat) : Int) > 255) = true := decide_eq_true (by omega)
                rw [hT] at hQ
                repeat (first | refine tr_seq_k fun _ _ => ?_ | (refine tr_region ?_; simp only [go_sem, reduceCtorEq, Nat.reduceEqDiff, Nat.reduceLT, Nat.reduceLeDiff, Nat.reduceAdd, Nat.reduceMul, Nat.reduceSub, Nat.reduceBEq, ↓reduceIte, w5, d5]) | refine k_of (by assumption) ?_ | (refine tr_exit ?_; try simp only [ex_seq_exit, ex_block_exit, Nat.reduceEqDiff, if_true, if_false, ex_seq, ex_block, reduceCtorEq, ↓reduceIte]))
                refine tr_cond rfl (fun ht => ?_) (fun hf => ?_)
                · repeat (first | refine tr_seq_k fun _ _ => ?_ | (refine tr_region ?_; simp only [go_sem, reduceCtorEq, Nat.reduceEqDiff, Nat.reduceLT, Nat.reduceLeDiff, Nat.reduceAdd, Nat.reduceMul, Nat.reduceSub, Nat.reduceBEq, ↓reduceIte]) | refine k_of (by assumption) ?_ | (refine tr_ret ?_; try simp only [ex_seq_ret, ex_block_ret]))
                  refine (hQ _ _ [.agg [.v (.int .i64 0), .v (.string ⟨#[]⟩), .v (.int .i64 0)], iA 4] ?_ (fun m => rfl)).2 <;> simp only [go_sem, reduceCtorEq, Nat.reduceEqDiff, Nat.reduceLT, Nat.reduceLeDiff, Nat.reduceAdd, Nat.reduceMul, Nat.reduceSub, Nat.reduceBEq, ↓reduceIte, Tryd.f78]
                · cases hf
              · rw [if_neg h5] at hT
                have d5 : decide (((j - i : Nat) : Int) > 255) = false := decide_eq_false (by omega)
                have cu := cut_ab (s := s) hij hj
                rw [hT] at hQ
                repeat (first | refine tr_seq_k fun _ _ => ?_ | (refine tr_region ?_; simp only [go_sem, reduceCtorEq, Nat.reduceEqDiff, Nat.reduceLT, Nat.reduceLeDiff, Nat.reduceAdd, Nat.reduceMul, Nat.reduceSub, Nat.reduceBEq, ↓reduceIte, w5, d5]) | refine k_of (by assumption) ?_ | (refine tr_exit ?_; try simp only [ex_seq_exit, ex_block_exit, Nat.reduceEqDiff, if_true, if_false, ex_seq, ex_block, reduceCtorEq, ↓reduceIte]))
                refine tr_cond rfl (fun ht => ?_) (fun hf => ?_)
                · cases ht
                · repeat (first | refine tr_seq_k fun _ _ => ?_ | (refine tr_region ?_; simp only [go_sem, reduceCtorEq, Nat.reduceEqDiff, Nat.reduceLT, Nat.reduceLeDiff, Nat.reduceAdd, Nat.reduceMul, Nat.reduceSub, Nat.reduceBEq, ↓reduceIte, cu]) | refine k_of (by assumption) ?_ | (refine tr_skip ?_; try simp only [ex_seq, ex_block]) | (refine tr_ret ?_; try simp only [ex_seq_ret, ex_block_ret]))
                  refine (hQ _ _ [.agg [.v (.int .i64 2), .v (.string (s.extract i j)), .v (.int .i64 i)], iA 0] ?_ (fun m => rfl)).2 <;> simp only [go_sem, reduceCtorEq, Nat.reduceEqDiff, Nat.reduceLT, Nat.reduceLeDiff, Nat.reduceAdd, Nat.reduceMul, Nat.reduceSub, Nat.reduceBEq, ↓reduceIte, Tryd.f78]
        · cases hf
    | false =>
      rw [h2] at cG
      have k1 := k1 h2
      have k0 := k0 h2
      cases h3 : lowerB c with
      | true =>
        rw [h3] at cS k1
        have hk := k1 rfl
        refine does_of' Tryd.func78 rfl (by kernel_rfl) rfl Tryd.ntmps78 rfl rfl fun Q hQ => ?_
        repeat (first | refine tr_seq_k fun _ _ => ?_ | (refine tr_region ?_; simp only [go_sem, reduceCtorEq, Nat.reduceEqDiff, Nat.reduceLT, Nat.reduceLeDiff, Nat.reduceAdd, Nat.reduceMul, Nat.reduceSub, Nat.reduceBEq, ↓reduceIte, ix]) | (refine call_of (cI) ?_ ?_; (first | rfl | simp only [go_sem, reduceCtorEq, Nat.reduceEqDiff, Nat.reduceLT, Nat.reduceLeDiff, Nat.reduceAdd, Nat.reduceMul, Nat.reduceSub, Nat.reduceBEq, ↓reduceIte, ix, shut_col]); simp only [go_sem, reduceCtorEq, Nat.reduceEqDiff, Nat.reduceLT, Nat.reduceLeDiff, Nat.reduceAdd, Nat.reduceMul, Nat.reduceSub, Nat.reduceBEq, ↓reduceIte, ix]) | refine k_of (by assumption) ?_ | refine tr_block ?_)
        refine tr_cond rfl (fun ht => ?_) (fun hf => ?_)
        · cases ht
        · repeat (first | refine tr_seq_k fun _ _ => ?_ | (refine tr_region ?_; simp only [go_sem, reduceCtorEq, Nat.reduceEqDiff, Nat.reduceLT, Nat.reduceLeDiff, Nat.reduceAdd, Nat.reduceMul, Nat.reduceSub, Nat.reduceBEq, ↓reduceIte, ix]) | (refine call_of (cG) ?_ ?_; (first | rfl | simp only [go_sem, reduceCtorEq, Nat.reduceEqDiff, Nat.reduceLT, Nat.reduceLeDiff, Nat.reduceAdd, Nat.reduceMul, Nat.reduceSub, Nat.reduceBEq, ↓reduceIte, ix, shut_col]); simp only [go_sem, reduceCtorEq, Nat.reduceEqDiff, Nat.reduceLT, Nat.reduceLeDiff, Nat.reduceAdd, Nat.reduceMul, Nat.reduceSub, Nat.reduceBEq, ↓reduceIte, ix]) | refine k_of (by assumption) ?_)
          refine tr_cond rfl (fun ht => ?_) (fun hf => ?_)
          · cases ht
          · repeat (first | refine tr_seq_k fun _ _ => ?_ | (refine tr_region ?_; simp only [go_sem, reduceCtorEq, Nat.reduceEqDiff, Nat.reduceLT, Nat.reduceLeDiff, Nat.reduceAdd, Nat.reduceMul, Nat.reduceSub, Nat.reduceBEq, ↓reduceIte, ix]) | (refine call_of (cS) ?_ ?_; (first | rfl | simp only [go_sem, reduceCtorEq, Nat.reduceEqDiff, Nat.reduceLT, Nat.reduceLeDiff, Nat.reduceAdd, Nat.reduceMul, Nat.reduceSub, Nat.reduceBEq, ↓reduceIte, ix, shut_col]); simp only [go_sem, reduceCtorEq, Nat.reduceEqDiff, Nat.reduceLT, Nat.reduceLeDiff, Nat.reduceAdd, Nat.reduceMul, Nat.reduceSub, Nat.reduceBEq, ↓reduceIte, ix]) | refine k_of (by assumption) ?_)
            refine tr_cond rfl (fun ht => ?_) (fun hf => ?_)
            · repeat (first | refine tr_seq_k fun _ _ => ?_ | (refine tr_region ?_; simp only [go_sem, reduceCtorEq, Nat.reduceEqDiff, Nat.reduceLT, Nat.reduceLeDiff, Nat.reduceAdd, Nat.reduceMul, Nat.reduceSub, Nat.reduceBEq, ↓reduceIte]) | refine k_of (by assumption) ?_ | refine tr_block ?_)
              rw [hk] at hT hkm
              rw [if_neg (by decide), if_neg (by decide)] at hT
              refine tr_loop_k (σ := Nat) (fun j => [(0, sA s), (1, iA i), (4, .ptr 0 0), (6, .ptr 1 0), (7, iA j)]) (fun _ => ⟨[⟨false, [iA 0, sA ⟨#[]⟩, iA 0]⟩, ⟨false, [iA 1, sA ⟨#[]⟩, iA i]⟩], []⟩) (fun j => i ≤ j ∧ j ≤ s.size ∧ runAt 1 s j = runAt 1 s i) (fun j => s.size - j) i ⟨Nat.le_refl _, by omega, rfl⟩ ⟨rfl, rfl, rfl, rfl, rfl, trivial⟩ rfl ?_
              rintro j ⟨hij, hj, hjT⟩ K hK
              by_cases hjl : j < (lts s).length
              · have d3 : decide ((j : Int) < (s.size : Nat)) = true := decide_eq_true (by omega)
                have ix2 := idx_str s hjl
                have ws2 := wrap_succ (show j ≤ 1000000000 by omega)
                have hn2 := run_next (kind := 1) hjl
                have hs2 := run_stop (kind := 1) hjl
                generalize (lts s)[j] = c2 at *
                have cM := more_does 1 c2
                cases h4 : moreB 1 c2 with
                | true =>
                  rw [h4] at cM
                  repeat (first | refine tr_seq_k fun _ _ => ?_ | (refine tr_draw (id := 10) follows 10000 [10] [0, 1, 2, 3, 4, 5, 6, 7, 8, 9, 10, 11] (by kernel_rfl) ?_; simp only [go_sem, reduceCtorEq, Nat.reduceEqDiff, Nat.reduceLT, Nat.reduceLeDiff, Nat.reduceAdd, Nat.reduceMul, Nat.reduceSub, Nat.reduceBEq, ↓reduceIte, d3, ix2]) | (refine call_of (cM) ?_ ?_; (first | rfl | simp only [go_sem, reduceCtorEq, Nat.reduceEqDiff, Nat.reduceLT, Nat.reduceLeDiff, Nat.reduceAdd, Nat.reduceMul, Nat.reduceSub, Nat.reduceBEq, ↓reduceIte, d3, ix2, shut_col]); simp only [go_sem, reduceCtorEq, Nat.reduceEqDiff, Nat.reduceLT, Nat.reduceLeDiff, Nat.reduceAdd, Nat.reduceMul, Nat.reduceSub, Nat.reduceBEq, ↓reduceIte, d3, ix2]) | refine k_of (by assumption) ?_)
                  refine tr_cond rfl (fun ht => ?_) (fun hf => ?_)
                  · repeat (first | (refine tr_region ?_; simp only [go_sem, reduceCtorEq, Nat.reduceEqDiff, Nat.reduceLT, Nat.reduceLeDiff, Nat.reduceAdd, Nat.reduceMul, Nat.reduceSub, Nat.reduceBEq, ↓reduceIte, ws2]) | refine k_of (by assumption) ?_ | refine tr_block ?_ | (refine tr_skip ?_; try simp only [ex_seq, ex_block]))
                    exact hK (j + 1) _ _ ⟨by omega, by omega, (hn2 h4).trans hjT⟩ ⟨⟨rfl, rfl, rfl, rfl, rfl, trivial⟩, Keep.refl _, rfl, rfl, Nat.le_refl _, Nat.le_refl _⟩ (by omega)
                  · cases hf
                | false =>
                  rw [h4] at cM
                  have hv : runAt 1 s i = j := hjT.symm.trans (hs2 h4)
                  repeat (first | refine tr_seq_k fun _ _ => ?_ | (refine tr_draw (id := 10) follows 10000 [10] [0, 1, 2, 3, 4, 5, 6, 7, 8, 9, 10, 11] (by kernel_rfl) ?_; simp only [go_sem, reduceCtorEq, Nat.reduceEqDiff, Nat.reduceLT, Nat.reduceLeDiff, Nat.reduceAdd, Nat.reduceMul, Nat.reduceSub, Nat.reduceBEq, ↓reduceIte, d3, ix2]) | (refine call_of (cM) ?_ ?_; (first | rfl | simp only [go_sem, reduceCtorEq, Nat.reduceEqDiff, Nat.reduceLT, Nat.reduceLeDiff, Nat.reduceAdd, Nat.reduceMul, Nat.reduceSub, Nat.reduceBEq, ↓reduceIte, d3, ix2, shut_col]); simp only [go_sem, reduceCtorEq, Nat.reduceEqDiff, Nat.reduceLT, Nat.reduceLeDiff, Nat.reduceAdd, Nat.reduceMul, Nat.reduceSub, Nat.reduceBEq, ↓reduceIte, d3, ix2]) | refine k_of (by assumption) ?_)
                  refine tr_cond rfl (fun ht => ?_) (fun hf => ?_)
                  · cases ht
                  · rw [hv] at hT
                    have w5 : IntKind.i64.wrap ((j : Int) - (i : Nat)) = ((j - i : Nat) : Int) := by rw [wrap_in (by omega)]; omega
                    by_cases h5 : 255 < j - i
                    · rw [if_pos h5] at hT
                      have d5 : decide (((j - i : Nat) : Int) > 255) = true := decide_eq_true (by omega)
                      rw [hT] at hQ
                      repeat (first | refine tr_seq_k fun _ _ => ?_ | (refine tr_region ?_; simp only [go_sem, reduceCtorEq, Nat.reduceEqDiff, Nat.reduceLT, Nat.reduceLeDiff, Nat.reduceAdd, Nat.reduceMul, Nat.reduceSub, Nat.reduceBEq, ↓reduceIte, w5, d5]) | refine k_of (by assumption) ?_ | (refine tr_exit ?_; try simp only [ex_seq_exit, ex_block_exit, Nat.reduceEqDiff, if_true, if_false, ex_seq, ex_block, reduceCtorEq, ↓reduceIte]))
                      refine tr_cond rfl (fun ht => ?_) (fun hf => ?_)
                      · repeat (first | refine tr_seq_k fun _ _ => ?_ | (refine tr_region ?_; simp only [go_sem, reduceCtorEq, Nat.reduceEqDiff, Nat.reduceLT, Nat.reduceLeDiff, Nat.reduceAdd, Nat.reduceMul, Nat.reduceSub, Nat.reduceBEq, ↓reduceIte]) | refine k_of (by assumption) ?_ | (refine tr_ret ?_; try simp only [ex_seq_ret, ex_block_ret]))
                        refine (hQ _ _ [.agg [.v (.int .i64 0), .v (.string ⟨#[]⟩), .v (.int .i64 0)], iA 4] ?_ (fun m => rfl)).2 <;> simp only [go_sem, reduceCtorEq, Nat.reduceEqDiff, Nat.reduceLT, Nat.reduceLeDiff, Nat.reduceAdd, Nat.reduceMul, Nat.reduceSub, Nat.reduceBEq, ↓reduceIte, Tryd.f78]
                      · cases hf
                    · rw [if_neg h5] at hT
                      have d5 : decide (((j - i : Nat) : Int) > 255) = false := decide_eq_false (by omega)
                      have cu := cut_ab (s := s) hij hj
                      rw [hT] at hQ
                      repeat (first | refine tr_seq_k fun _ _ => ?_ | (refine tr_region ?_; simp only [go_sem, reduceCtorEq, Nat.reduceEqDiff, Nat.reduceLT, Nat.reduceLeDiff, Nat.reduceAdd, Nat.reduceMul, Nat.reduceSub, Nat.reduceBEq, ↓reduceIte, w5, d5]) | refine k_of (by assumption) ?_ | (refine tr_exit ?_; try simp only [ex_seq_exit, ex_block_exit, Nat.reduceEqDiff, if_true, if_false, ex_seq, ex_block, reduceCtorEq, ↓reduceIte]))
                      refine tr_cond rfl (fun ht => ?_) (fun hf => ?_)
                      · cases ht
                      · repeat (first | refine tr_seq_k fun _ _ => ?_ | (refine tr_region ?_; simp only [go_sem, reduceCtorEq, Nat.reduceEqDiff, Nat.reduceLT, Nat.reduceLeDiff, Nat.reduceAdd, Nat.reduceMul, Nat.reduceSub, Nat.reduceBEq, ↓reduceIte, cu]) | refine k_of (by assumption) ?_ | (refine tr_skip ?_; try simp only [ex_seq, ex_block]) | (refine tr_ret ?_; try simp only [ex_seq_ret, ex_block_ret]))
                        refine (hQ _ _ [.agg [.v (.int .i64 1), .v (.string (s.extract i j)), .v (.int .i64 i)], iA 0] ?_ (fun m => rfl)).2 <;> simp only [go_sem, reduceCtorEq, Nat.reduceEqDiff, Nat.reduceLT, Nat.reduceLeDiff, Nat.reduceAdd, Nat.reduceMul, Nat.reduceSub, Nat.reduceBEq, ↓reduceIte, Tryd.f78]
              · have d3 : decide ((j : Int) < (s.size : Nat)) = false := decide_eq_false (by omega)
                have hv : runAt 1 s i = j := hjT.symm.trans (run_end hjl)
                repeat (first | refine tr_seq_k fun _ _ => ?_ | (refine tr_draw (id := 10) follows 10000 [10] [0, 1, 2, 3, 4, 5, 6, 7, 8, 9, 10, 11] (by kernel_rfl) ?_; simp only [go_sem, reduceCtorEq, Nat.reduceEqDiff, Nat.reduceLT, Nat.reduceLeDiff, Nat.reduceAdd, Nat.reduceMul, Nat.reduceSub, Nat.reduceBEq, ↓reduceIte, d3]) | refine k_of (by assumption) ?_)
                refine tr_cond rfl (fun ht => ?_) (fun hf => ?_)
                · cases ht
                · rw [hv] at hT
                  have w5 : IntKind.i64.wrap ((j : Int) - (i : Nat)) = ((j - i : Nat) : Int) := by rw [wrap_in (by omega)]; omega
                  by_cases h5 : 255 < j - i
                  · rw [if_pos h5] at hT
                    have d5 : decide (((j - i : Nat) : Int) > 255) = true := decide_eq_true (by omega)
                    rw [hT] at hQ
                    repeat (first | refine tr_seq_k fun _ _ => ?_ | (refine tr_region ?_; simp only [go_sem, reduceCtorEq, Nat.reduceEqDiff, Nat.reduceLT, Nat.reduceLeDiff, Nat.reduceAdd, Nat.reduceMul, Nat.reduceSub, Nat.reduceBEq, ↓reduceIte, w5, d5]) | refine k_of (by assumption) ?_ | (refine tr_exit ?_; try simp only [ex_seq_exit, ex_block_exit, Nat.reduceEqDiff, if_true, if_false, ex_seq, ex_block, reduceCtorEq, ↓reduceIte]))
                    refine tr_cond rfl (fun ht => ?_) (fun hf => ?_)
                    · repeat (first | refine tr_seq_k fun _ _ => ?_ | (refine tr_region ?_; simp only [go_sem, reduceCtorEq, Nat.reduceEqDiff, Nat.reduceLT, Nat.reduceLeDiff, Nat.reduceAdd, Nat.reduceMul, Nat.reduceSub, Nat.reduceBEq, ↓reduceIte]) | refine k_of (by assumption) ?_ | (refine tr_ret ?_; try simp only [ex_seq_ret, ex_block_ret]))
                      refine (hQ _ _ [.agg [.v (.int .i64 0), .v (.string ⟨#[]⟩), .v (.int .i64 0)], iA 4] ?_ (fun m => rfl)).2 <;> simp only [go_sem, reduceCtorEq, Nat.reduceEqDiff, Nat.reduceLT, Nat.reduceLeDiff, Nat.reduceAdd, Nat.reduceMul, Nat.reduceSub, Nat.reduceBEq, ↓reduceIte, Tryd.f78]
                    · cases hf
                  · rw [if_neg h5] at hT
                    have d5 : decide (((j - i : Nat) : Int) > 255) = false := decide_eq_false (by omega)
                    have cu := cut_ab (s := s) hij hj
                    rw [hT] at hQ
                    repeat (first | refine tr_seq_k fun _ _ => ?_ | (refine tr_region ?_; simp only [go_sem, reduceCtorEq, Nat.reduceEqDiff, Nat.reduceLT, Nat.reduceLeDiff, Nat.reduceAdd, Nat.reduceMul, Nat.reduceSub, Nat.reduceBEq, ↓reduceIte, w5, d5]) | refine k_of (by assumption) ?_ | (refine tr_exit ?_; try simp only [ex_seq_exit, ex_block_exit, Nat.reduceEqDiff, if_true, if_false, ex_seq, ex_block, reduceCtorEq, ↓reduceIte]))
                    refine tr_cond rfl (fun ht => ?_) (fun hf => ?_)
                    · cases ht
                    · repeat (first | refine tr_seq_k fun _ _ => ?_ | (refine tr_region ?_; simp only [go_sem, reduceCtorEq, Nat.reduceEqDiff, Nat.reduceLT, Nat.reduceLeDiff, Nat.reduceAdd, Nat.reduceMul, Nat.reduceSub, Nat.reduceBEq, ↓reduceIte, cu]) | refine k_of (by assumption) ?_ | (refine tr_skip ?_; try simp only [ex_seq, ex_block]) | (refine tr_ret ?_; try simp only [ex_seq_ret, ex_block_ret]))
                      refine (hQ _ _ [.agg [.v (.int .i64 1), .v (.string (s.extract i j)), .v (.int .i64 i)], iA 0] ?_ (fun m => rfl)).2 <;> simp only [go_sem, reduceCtorEq, Nat.reduceEqDiff, Nat.reduceLT, Nat.reduceLeDiff, Nat.reduceAdd, Nat.reduceMul, Nat.reduceSub, Nat.reduceBEq, ↓reduceIte, Tryd.f78]
            · cases hf
      | false =>
        rw [h3] at cS k1 k0
        cases h4 : digB c with
        | true =>
          rw [h4] at cD k1
          have hk := k1 rfl
          refine does_of' Tryd.func78 rfl (by kernel_rfl) rfl Tryd.ntmps78 rfl rfl fun Q hQ => ?_
          repeat (first | refine tr_seq_k fun _ _ => ?_ | (refine tr_region ?_; simp only [go_sem, reduceCtorEq, Nat.reduceEqDiff, Nat.reduceLT, Nat.reduceLeDiff, Nat.reduceAdd, Nat.reduceMul, Nat.reduceSub, Nat.reduceBEq, ↓reduceIte, ix]) | (refine call_of (cI) ?_ ?_; (first | rfl | simp only [go_sem, reduceCtorEq, Nat.reduceEqDiff, Nat.reduceLT, Nat.reduceLeDiff, Nat.reduceAdd, Nat.reduceMul, Nat.reduceSub, Nat.reduceBEq, ↓reduceIte, ix, shut_col]); simp only [go_sem, reduceCtorEq, Nat.reduceEqDiff, Nat.reduceLT, Nat.reduceLeDiff, Nat.reduceAdd, Nat.reduceMul, Nat.reduceSub, Nat.reduceBEq, ↓reduceIte, ix]) | refine k_of (by assumption) ?_ | refine tr_block ?_)
          refine tr_cond rfl (fun ht => ?_) (fun hf => ?_)
          · cases ht
          · repeat (first | refine tr_seq_k fun _ _ => ?_ | (refine tr_region ?_; simp only [go_sem, reduceCtorEq, Nat.reduceEqDiff, Nat.reduceLT, Nat.reduceLeDiff, Nat.reduceAdd, Nat.reduceMul, Nat.reduceSub, Nat.reduceBEq, ↓reduceIte, ix]) | (refine call_of (cG) ?_ ?_; (first | rfl | simp only [go_sem, reduceCtorEq, Nat.reduceEqDiff, Nat.reduceLT, Nat.reduceLeDiff, Nat.reduceAdd, Nat.reduceMul, Nat.reduceSub, Nat.reduceBEq, ↓reduceIte, ix, shut_col]); simp only [go_sem, reduceCtorEq, Nat.reduceEqDiff, Nat.reduceLT, Nat.reduceLeDiff, Nat.reduceAdd, Nat.reduceMul, Nat.reduceSub, Nat.reduceBEq, ↓reduceIte, ix]) | refine k_of (by assumption) ?_)
            refine tr_cond rfl (fun ht => ?_) (fun hf => ?_)
            · cases ht
            · repeat (first | refine tr_seq_k fun _ _ => ?_ | (refine tr_region ?_; simp only [go_sem, reduceCtorEq, Nat.reduceEqDiff, Nat.reduceLT, Nat.reduceLeDiff, Nat.reduceAdd, Nat.reduceMul, Nat.reduceSub, Nat.reduceBEq, ↓reduceIte, ix]) | (refine call_of (cS) ?_ ?_; (first | rfl | simp only [go_sem, reduceCtorEq, Nat.reduceEqDiff, Nat.reduceLT, Nat.reduceLeDiff, Nat.reduceAdd, Nat.reduceMul, Nat.reduceSub, Nat.reduceBEq, ↓reduceIte, ix, shut_col]); simp only [go_sem, reduceCtorEq, Nat.reduceEqDiff, Nat.reduceLT, Nat.reduceLeDiff, Nat.reduceAdd, Nat.reduceMul, Nat.reduceSub, Nat.reduceBEq, ↓reduceIte, ix]) | (refine call_of (cD) ?_ ?_; (first | rfl | simp only [go_sem, reduceCtorEq, Nat.reduceEqDiff, Nat.reduceLT, Nat.reduceLeDiff, Nat.reduceAdd, Nat.reduceMul, Nat.reduceSub, Nat.reduceBEq, ↓reduceIte, ix, shut_col]); simp only [go_sem, reduceCtorEq, Nat.reduceEqDiff, Nat.reduceLT, Nat.reduceLeDiff, Nat.reduceAdd, Nat.reduceMul, Nat.reduceSub, Nat.reduceBEq, ↓reduceIte, ix]) | refine k_of (by assumption) ?_)
              refine tr_cond rfl (fun ht => ?_) (fun hf => ?_)
              · repeat (first | refine tr_seq_k fun _ _ => ?_ | (refine tr_region ?_; simp only [go_sem, reduceCtorEq, Nat.reduceEqDiff, Nat.reduceLT, Nat.reduceLeDiff, Nat.reduceAdd, Nat.reduceMul, Nat.reduceSub, Nat.reduceBEq, ↓reduceIte]) | refine k_of (by assumption) ?_ | refine tr_block ?_)
                rw [hk] at hT hkm
                rw [if_neg (by decide), if_neg (by decide)] at hT
                refine tr_loop_k (σ := Nat) (fun j => [(0, sA s), (1, iA i), (4, .ptr 0 0), (6, .ptr 1 0), (7, iA j)]) (fun _ => ⟨[⟨false, [iA 0, sA ⟨#[]⟩, iA 0]⟩, ⟨false, [iA 1, sA ⟨#[]⟩, iA i]⟩], []⟩) (fun j => i ≤ j ∧ j ≤ s.size ∧ runAt 1 s j = runAt 1 s i) (fun j => s.size - j) i ⟨Nat.le_refl _, by omega, rfl⟩ ⟨rfl, rfl, rfl, rfl, rfl, trivial⟩ rfl ?_
                rintro j ⟨hij, hj, hjT⟩ K hK
                by_cases hjl : j < (lts s).length
                · have d3 : decide ((j : Int) < (s.size : Nat)) = true := decide_eq_true (by omega)
                  have ix2 := idx_str s hjl
                  have ws2 := wrap_succ (show j ≤ 1000000000 by omega)
                  have hn2 := run_next (kind := 1) hjl
                  have hs2 := run_stop (kind := 1) hjl
                  generalize (lts s)[j] = c2 at *
                  have cM := more_does 1 c2
                  cases h4 : moreB 1 c2 with
                  | true =>
                    rw [h4] at cM
                    repeat (first | refine tr_seq_k fun _ _ => ?_ | (refine tr_draw (id := 10) follows 10000 [10] [0, 1, 2, 3, 4, 5, 6, 7, 8, 9, 10, 11] (by kernel_rfl) ?_; simp only [go_sem, reduceCtorEq, Nat.reduceEqDiff, Nat.reduceLT, Nat.reduceLeDiff, Nat.reduceAdd, Nat.reduceMul, Nat.reduceSub, Nat.reduceBEq, ↓reduceIte, d3, ix2]) | (refine call_of (cM) ?_ ?_; (first | rfl | simp only [go_sem, reduceCtorEq, Nat.reduceEqDiff, Nat.reduceLT, Nat.reduceLeDiff, Nat.reduceAdd, Nat.reduceMul, Nat.reduceSub, Nat.reduceBEq, ↓reduceIte, d3, ix2, shut_col]); simp only [go_sem, reduceCtorEq, Nat.reduceEqDiff, Nat.reduceLT, Nat.reduceLeDiff, Nat.reduceAdd, Nat.reduceMul, Nat.reduceSub, Nat.reduceBEq, ↓reduceIte, d3, ix2]) | refine k_of (by assumption) ?_)
                    refine tr_cond rfl (fun ht => ?_) (fun hf => ?_)
                    · repeat (first | (refine tr_region ?_; simp only [go_sem, reduceCtorEq, Nat.reduceEqDiff, Nat.reduceLT, Nat.reduceLeDiff, Nat.reduceAdd, Nat.reduceMul, Nat.reduceSub, Nat.reduceBEq, ↓reduceIte, ws2]) | refine k_of (by assumption) ?_ | refine tr_block ?_ | (refine tr_skip ?_; try simp only [ex_seq, ex_block]))
                      exact hK (j + 1) _ _ ⟨by omega, by omega, (hn2 h4).trans hjT⟩ ⟨⟨rfl, rfl, rfl, rfl, rfl, trivial⟩, Keep.refl _, rfl, rfl, Nat.le_refl _, Nat.le_refl _⟩ (by omega)
                    · cases hf
                  | false =>
                    rw [h4] at cM
                    have hv : runAt 1 s i = j := hjT.symm.trans (hs2 h4)
                    repeat (first | refine tr_seq_k fun _ _ => ?_ | (refine tr_draw (id := 10) follows 10000 [10] [0, 1, 2, 3, 4, 5, 6, 7, 8, 9, 10, 11] (by kernel_rfl) ?_; simp only [go_sem, reduceCtorEq, Nat.reduceEqDiff, Nat.reduceLT, Nat.reduceLeDiff, Nat.reduceAdd, Nat.reduceMul, Nat.reduceSub, Nat.reduceBEq, ↓reduceIte, d3, ix2]) | (refine call_of (cM) ?_ ?_; (first | rfl | simp only [go_sem, reduceCtorEq, Nat.reduceEqDiff, Nat.reduceLT, Nat.reduceLeDiff, Nat.reduceAdd, Nat.reduceMul, Nat.reduceSub, Nat.reduceBEq, ↓reduceIte, d3, ix2, shut_col]); simp only [go_sem, reduceCtorEq, Nat.reduceEqDiff, Nat.reduceLT, Nat.reduceLeDiff, Nat.reduceAdd, Nat.reduceMul, Nat.reduceSub, Nat.reduceBEq, ↓reduceIte, d3, ix2]) | refine k_of (by assumption) ?_)
                    refine tr_cond rfl (fun ht => ?_) (fun hf => ?_)
                    · cases ht
                    · rw [hv] at hT
                      have w5 : IntKind.i64.wrap ((j : Int) - (i : Nat)) = ((j - i : Nat) : Int) := by rw [wrap_in (by omega)]; omega
                      by_cases h5 : 255 < j - i
                      · rw [if_pos h5] at hT
                        have d5 : decide (((j - i : Nat) : Int) > 255) = true := decide_eq_true (by omega)
                        rw [hT] at hQ
                        repeat (first | refine tr_seq_k fun _ _ => ?_ | (refine tr_region ?_; simp only [go_sem, reduceCtorEq, Nat.reduceEqDiff, Nat.reduceLT, Nat.reduceLeDiff, Nat.reduceAdd, Nat.reduceMul, Nat.reduceSub, Nat.reduceBEq, ↓reduceIte, w5, d5]) | refine k_of (by assumption) ?_ | (refine tr_exit ?_; try simp only [ex_seq_exit, ex_block_exit, Nat.reduceEqDiff, if_true, if_false, ex_seq, ex_block, reduceCtorEq, ↓reduceIte]))
                        refine tr_cond rfl (fun ht => ?_) (fun hf => ?_)
                        · repeat (first | refine tr_seq_k fun _ _ => ?_ | (refine tr_region ?_; simp only [go_sem, reduceCtorEq, Nat.reduceEqDiff, Nat.reduceLT, Nat.reduceLeDiff, Nat.reduceAdd, Nat.reduceMul, Nat.reduceSub, Nat.reduceBEq, ↓reduceIte]) | refine k_of (by assumption) ?_ | (refine tr_ret ?_; try simp only [ex_seq_ret, ex_block_ret]))
                          refine (hQ _ _ [.agg [.v (.int .i64 0), .v (.string ⟨#[]⟩), .v (.int .i64 0)], iA 4] ?_ (fun m => rfl)).2 <;> simp only [go_sem, reduceCtorEq, Nat.reduceEqDiff, Nat.reduceLT, Nat.reduceLeDiff, Nat.reduceAdd, Nat.reduceMul, Nat.reduceSub, Nat.reduceBEq, ↓reduceIte, Tryd.f78]
                        · cases hf
                      · rw [if_neg h5] at hT
                        have d5 : decide (((j - i : Nat) : Int) > 255) = false := decide_eq_false (by omega)
                        have cu := cut_ab (s := s) hij hj
                        rw [hT] at hQ
                        repeat (first | refine tr_seq_k fun _ _ => ?_ | (refine tr_region ?_; simp only [go_sem, reduceCtorEq, Nat.reduceEqDiff, Nat.reduceLT, Nat.reduceLeDiff, Nat.reduceAdd, Nat.reduceMul, Nat.reduceSub, Nat.reduceBEq, ↓reduceIte, w5, d5]) | refine k_of (by assumption) ?_ | (refine tr_exit ?_; try simp only [ex_seq_exit, ex_block_exit, Nat.reduceEqDiff, if_true, if_false, ex_seq, ex_block, reduceCtorEq, ↓reduceIte]))
                        refine tr_cond rfl (fun ht => ?_) (fun hf => ?_)
                        · cases ht
                        · repeat (first | refine tr_seq_k fun _ _ => ?_ | (refine tr_region ?_; simp only [go_sem, reduceCtorEq, Nat.reduceEqDiff, Nat.reduceLT, Nat.reduceLeDiff, Nat.reduceAdd, Nat.reduceMul, Nat.reduceSub, Nat.reduceBEq, ↓reduceIte, cu]) | refine k_of (by assumption) ?_ | (refine tr_skip ?_; try simp only [ex_seq, ex_block]) | (refine tr_ret ?_; try simp only [ex_seq_ret, ex_block_ret]))
                          refine (hQ _ _ [.agg [.v (.int .i64 1), .v (.string (s.extract i j)), .v (.int .i64 i)], iA 0] ?_ (fun m => rfl)).2 <;> simp only [go_sem, reduceCtorEq, Nat.reduceEqDiff, Nat.reduceLT, Nat.reduceLeDiff, Nat.reduceAdd, Nat.reduceMul, Nat.reduceSub, Nat.reduceBEq, ↓reduceIte, Tryd.f78]
                · have d3 : decide ((j : Int) < (s.size : Nat)) = false := decide_eq_false (by omega)
                  have hv : runAt 1 s i = j := hjT.symm.trans (run_end hjl)
                  repeat (first | refine tr_seq_k fun _ _ => ?_ | (refine tr_draw (id := 10) follows 10000 [10] [0, 1, 2, 3, 4, 5, 6, 7, 8, 9, 10, 11] (by kernel_rfl) ?_; simp only [go_sem, reduceCtorEq, Nat.reduceEqDiff, Nat.reduceLT, Nat.reduceLeDiff, Nat.reduceAdd, Nat.reduceMul, Nat.reduceSub, Nat.reduceBEq, ↓reduceIte, d3]) | refine k_of (by assumption) ?_)
                  refine tr_cond rfl (fun ht => ?_) (fun hf => ?_)
                  · cases ht
                  · rw [hv] at hT
                    have w5 : IntKind.i64.wrap ((j : Int) - (i : Nat)) = ((j - i : Nat) : Int) := by rw [wrap_in (by omega)]; omega
                    by_cases h5 : 255 < j - i
                    · rw [if_pos h5] at hT
                      have d5 : decide (((j - i : Nat) : Int) > 255) = true := decide_eq_true (by omega)
                      rw [hT] at hQ
                      repeat (first | refine tr_seq_k fun _ _ => ?_ | (refine tr_region ?_; simp only [go_sem, reduceCtorEq, Nat.reduceEqDiff, Nat.reduceLT, Nat.reduceLeDiff, Nat.reduceAdd, Nat.reduceMul, Nat.reduceSub, Nat.reduceBEq, ↓reduceIte, w5, d5]) | refine k_of (by assumption) ?_ | (refine tr_exit ?_; try simp only [ex_seq_exit, ex_block_exit, Nat.reduceEqDiff, if_true, if_false, ex_seq, ex_block, reduceCtorEq, ↓reduceIte]))
                      refine tr_cond rfl (fun ht => ?_) (fun hf => ?_)
                      · repeat (first | refine tr_seq_k fun _ _ => ?_ | (refine tr_region ?_; simp only [go_sem, reduceCtorEq, Nat.reduceEqDiff, Nat.reduceLT, Nat.reduceLeDiff, Nat.reduceAdd, Nat.reduceMul, Nat.reduceSub, Nat.reduceBEq, ↓reduceIte]) | refine k_of (by assumption) ?_ | (refine tr_ret ?_; try simp only [ex_seq_ret, ex_block_ret]))
                        refine (hQ _ _ [.agg [.v (.int .i64 0), .v (.string ⟨#[]⟩), .v (.int .i64 0)], iA 4] ?_ (fun m => rfl)).2 <;> simp only [go_sem, reduceCtorEq, Nat.reduceEqDiff, Nat.reduceLT, Nat.reduceLeDiff, Nat.reduceAdd, Nat.reduceMul, Nat.reduceSub, Nat.reduceBEq, ↓reduceIte, Tryd.f78]
                      · cases hf
                    · rw [if_neg h5] at hT
                      have d5 : decide (((j - i : Nat) : Int) > 255) = false := decide_eq_false (by omega)
                      have cu := cut_ab (s := s) hij hj
                      rw [hT] at hQ
                      repeat (first | refine tr_seq_k fun _ _ => ?_ | (refine tr_region ?_; simp only [go_sem, reduceCtorEq, Nat.reduceEqDiff, Nat.reduceLT, Nat.reduceLeDiff, Nat.reduceAdd, Nat.reduceMul, Nat.reduceSub, Nat.reduceBEq, ↓reduceIte, w5, d5]) | refine k_of (by assumption) ?_ | (refine tr_exit ?_; try simp only [ex_seq_exit, ex_block_exit, Nat.reduceEqDiff, if_true, if_false, ex_seq, ex_block, reduceCtorEq, ↓reduceIte]))
                      refine tr_cond rfl (fun ht => ?_) (fun hf => ?_)
                      · cases ht
                      · repeat (first | refine tr_seq_k fun _ _ => ?_ | (refine tr_region ?_; simp only [go_sem, reduceCtorEq, Nat.reduceEqDiff, Nat.reduceLT, Nat.reduceLeDiff, Nat.reduceAdd, Nat.reduceMul, Nat.reduceSub, Nat.reduceBEq, ↓reduceIte, cu]) | refine k_of (by assumption) ?_ | (refine tr_skip ?_; try simp only [ex_seq, ex_block]) | (refine tr_ret ?_; try simp only [ex_seq_ret, ex_block_ret]))
                        refine (hQ _ _ [.agg [.v (.int .i64 1), .v (.string (s.extract i j)), .v (.int .i64 i)], iA 0] ?_ (fun m => rfl)).2 <;> simp only [go_sem, reduceCtorEq, Nat.reduceEqDiff, Nat.reduceLT, Nat.reduceLeDiff, Nat.reduceAdd, Nat.reduceMul, Nat.reduceSub, Nat.reduceBEq, ↓reduceIte, Tryd.f78]
              · cases hf
        | false =>
          rw [h4] at cD k0
          have hk := k0 rfl
          rw [hk, if_neg (by decide), if_pos rfl] at hT
          rw [hT]
          refine does_of' Tryd.func78 rfl (by kernel_rfl) rfl Tryd.ntmps78 rfl rfl fun Q hQ => ?_
          repeat (first | refine tr_seq_k fun _ _ => ?_ | (refine tr_region ?_; simp only [go_sem, reduceCtorEq, Nat.reduceEqDiff, Nat.reduceLT, Nat.reduceLeDiff, Nat.reduceAdd, Nat.reduceMul, Nat.reduceSub, Nat.reduceBEq, ↓reduceIte, ix]) | (refine call_of (cI) ?_ ?_; (first | rfl | simp only [go_sem, reduceCtorEq, Nat.reduceEqDiff, Nat.reduceLT, Nat.reduceLeDiff, Nat.reduceAdd, Nat.reduceMul, Nat.reduceSub, Nat.reduceBEq, ↓reduceIte, ix, shut_col]); simp only [go_sem, reduceCtorEq, Nat.reduceEqDiff, Nat.reduceLT, Nat.reduceLeDiff, Nat.reduceAdd, Nat.reduceMul, Nat.reduceSub, Nat.reduceBEq, ↓reduceIte, ix]) | refine k_of (by assumption) ?_ | refine tr_block ?_)
          refine tr_cond rfl (fun ht => ?_) (fun hf => ?_)
          · cases ht
          · repeat (first | refine tr_seq_k fun _ _ => ?_ | (refine tr_region ?_; simp only [go_sem, reduceCtorEq, Nat.reduceEqDiff, Nat.reduceLT, Nat.reduceLeDiff, Nat.reduceAdd, Nat.reduceMul, Nat.reduceSub, Nat.reduceBEq, ↓reduceIte, ix]) | (refine call_of (cG) ?_ ?_; (first | rfl | simp only [go_sem, reduceCtorEq, Nat.reduceEqDiff, Nat.reduceLT, Nat.reduceLeDiff, Nat.reduceAdd, Nat.reduceMul, Nat.reduceSub, Nat.reduceBEq, ↓reduceIte, ix, shut_col]); simp only [go_sem, reduceCtorEq, Nat.reduceEqDiff, Nat.reduceLT, Nat.reduceLeDiff, Nat.reduceAdd, Nat.reduceMul, Nat.reduceSub, Nat.reduceBEq, ↓reduceIte, ix]) | refine k_of (by assumption) ?_)
            refine tr_cond rfl (fun ht => ?_) (fun hf => ?_)
            · cases ht
            · repeat (first | refine tr_seq_k fun _ _ => ?_ | (refine tr_region ?_; simp only [go_sem, reduceCtorEq, Nat.reduceEqDiff, Nat.reduceLT, Nat.reduceLeDiff, Nat.reduceAdd, Nat.reduceMul, Nat.reduceSub, Nat.reduceBEq, ↓reduceIte, ix]) | (refine call_of (cS) ?_ ?_; (first | rfl | simp only [go_sem, reduceCtorEq, Nat.reduceEqDiff, Nat.reduceLT, Nat.reduceLeDiff, Nat.reduceAdd, Nat.reduceMul, Nat.reduceSub, Nat.reduceBEq, ↓reduceIte, ix, shut_col]); simp only [go_sem, reduceCtorEq, Nat.reduceEqDiff, Nat.reduceLT, Nat.reduceLeDiff, Nat.reduceAdd, Nat.reduceMul, Nat.reduceSub, Nat.reduceBEq, ↓reduceIte, ix]) | (refine call_of (cD) ?_ ?_; (first | rfl | simp only [go_sem, reduceCtorEq, Nat.reduceEqDiff, Nat.reduceLT, Nat.reduceLeDiff, Nat.reduceAdd, Nat.reduceMul, Nat.reduceSub, Nat.reduceBEq, ↓reduceIte, ix, shut_col]); simp only [go_sem, reduceCtorEq, Nat.reduceEqDiff, Nat.reduceLT, Nat.reduceLeDiff, Nat.reduceAdd, Nat.reduceMul, Nat.reduceSub, Nat.reduceBEq, ↓reduceIte, ix]) | refine k_of (by assumption) ?_)
              refine tr_cond rfl (fun ht => ?_) (fun hf => ?_)
              · cases ht
              · repeat (first | refine tr_seq_k fun _ _ => ?_ | (refine tr_region ?_; simp only [go_sem, reduceCtorEq, Nat.reduceEqDiff, Nat.reduceLT, Nat.reduceLeDiff, Nat.reduceAdd, Nat.reduceMul, Nat.reduceSub, Nat.reduceBEq, ↓reduceIte]) | refine k_of (by assumption) ?_ | (refine tr_ret ?_; try simp only [ex_seq_ret, ex_block_ret]))
                refine (hQ _ _ [.agg [.v (.int .i64 0), .v (.string ⟨#[]⟩), .v (.int .i64 0)], iA 3] ?_ (fun m => rfl)).2 <;> simp only [go_sem, reduceCtorEq, Nat.reduceEqDiff, Nat.reduceLT, Nat.reduceLeDiff, Nat.reduceAdd, Nat.reduceMul, Nat.reduceSub, Nat.reduceBEq, ↓reduceIte, Tryd.f78]
end Go.Proofs.YtaeehadibckcjaaDoor
namespace Go.Proofs.YtaeehadibckcjaaDoor
open Go.RowKit Go.Vs Go.Vs.Ab
set_option maxRecDepth 100000
set_option maxHeartbeats 4000000
theorem info_tk : info3 Tryd.prog 99 = some (3, 32) := by simp only [info3, sz99, by99, ze99]; rfl
theorem appTk (hp : List Blk) (l : List Tk) (x : Tk) (hl : l.length ≤ 1000000) : aAppend Tryd.prog ⟨hp, colH 99 3 l⟩ 61 (colA tkC 0 l) (.c (.sl true 1 [.v (.int .i64 x.kind), .v (.string x.text), .v (.int .i64 x.at_)])) = some (colA tkC 0 (l ++ [x]), ⟨hp, colH 99 3 (l ++ [x])⟩) :=
  app_col0 (P := Tryd.prog) tkC (size := 3) (fun _ => rfl) Tryd.underlying61 info_tk (hp := hp) (l := l) (x := x) (ex := true) (Nat.le_trans (show _ ≤ 1000001 by omega) (by decide)) (by omega)
theorem bldTk (x : Tk) : aBuildSlice Tryd.prog 61 1 [(0, .agg [.v (.int .i64 x.kind), .v (.string x.text), .v (.int .i64 x.at_)])] = some [.v (.int .i64 x.kind), .v (.string x.text), .v (.int .i64 x.at_)] := build1 Tryd.underlying61 sz99 ze99 (by decide) (by decide) (by decide) rfl rfl
abbrev slK (ex : Bool) (l : List Tk) : AV := slR tkC ex l
theorem toksF_succ (s : ByteArray) (f i : Nat) (out : List Tk) : toksF s (f + 1) i out = if i < s.size then
      if (tokAt s i).2 ≠ 0 then (out, (i : Int), (tokAt s i).2)
      else toksF s f (skipAt s (i + (tokAt s i).1.text.size)) (out ++ [(tokAt s i).1])
    else (out, 0, 0) := rfl
theorem tokens_does (s : ByteArray) : Does Tryd.prog 59 [sA s] (fun m => (.tup [slK (toks s).1.isEmpty (toks s).1, iA (toks s).2.1, iA (toks s).2.2], m)) := by
  refine Does.shut2 (e := 99) (size := 3) rfl ?_
  by_cases hz : 65536 < s.size
  · have d1 : decide ((s.size : Int) > 65536) = true := decide_eq_true (by omega)
    have hT : toks s = ([], 65536, 4) := if_pos hz
    rw [hT]
    refine does_of' Tryd.func59 rfl (by kernel_rfl) rfl Tryd.ntmps59 rfl rfl fun Q hQ => ?_
    repeat (first | refine tr_seq_k fun _ _ => ?_ | (refine tr_region ?_; simp only [go_sem, reduceCtorEq, Nat.reduceEqDiff, Nat.reduceLT, Nat.reduceLeDiff, Nat.reduceAdd, Nat.reduceMul, Nat.reduceSub, Nat.reduceBEq, ↓reduceIte, d1]) | refine k_of (by assumption) ?_)
    refine tr_cond rfl (fun ht => ?_) (fun hf => ?_)
    · repeat (first | refine tr_seq_k fun _ _ => ?_ | (refine tr_region ?_; simp only [go_sem, reduceCtorEq, Nat.reduceEqDiff, Nat.reduceLT, Nat.reduceLeDiff, Nat.reduceAdd, Nat.reduceMul, Nat.reduceSub, Nat.reduceBEq, ↓reduceIte]) | refine k_of (by assumption) ?_ | (refine tr_ret ?_; try simp only [ex_seq_ret, ex_block_ret]))
      refine (hQ _ _ [.c (.sl true 0 []), iA 65536, iA 4] ?_ (fun m => ret_col_tup tkC 99 3 [] _ m [iA 65536, iA 4] rfl)).2 <;> simp only [go_sem, reduceCtorEq, Nat.reduceEqDiff, Nat.reduceLT, Nat.reduceLeDiff, Nat.reduceAdd, Nat.reduceMul, Nat.reduceSub, Nat.reduceBEq, ↓reduceIte, Tryd.f59]
    · cases hf
  · have d1 : decide ((s.size : Int) > 65536) = false := decide_eq_false (by omega)
    have hT : toks s = toksF s (s.size + 1) (skipAt s 0) [] := if_neg hz
    have cS := skip_does s 0 (Nat.zero_le _) (by omega)
    have h0 := skipAt_le (s := s) (Nat.zero_le _)
    obtain ⟨T, hTT⟩ : ∃ T, T = toks s := ⟨_, rfl⟩
    rw [← hTT] at hT
    rw [← hTT]
    refine does_of' Tryd.func59 rfl (by kernel_rfl) rfl Tryd.ntmps59 rfl rfl fun Q hQ => ?_
    repeat (first | refine tr_seq_k fun _ _ => ?_ | (refine tr_region ?_; simp only [go_sem, reduceCtorEq, Nat.reduceEqDiff, Nat.reduceLT, Nat.reduceLeDiff, Nat.reduceAdd, Nat.reduceMul, Nat.reduceSub, Nat.reduceBEq, ↓reduceIte, d1]) | refine k_of (by assumption) ?_)
    refine tr_cond rfl (fun ht => ?_) (fun hf => ?_)
    · cases ht
    · repeat (first | refine tr_seq_k fun _ _ => ?_ | (refine tr_region ?_; simp only [go_sem, reduceCtorEq, Nat.reduceEqDiff, Nat.reduceLT, Nat.reduceLeDiff, Nat.reduceAdd, Nat.reduceMul, Nat.reduceSub, Nat.reduceBEq, ↓reduceIte]) | (refine call_of (cS) ?_ ?_; (first | rfl | simp only [go_sem, reduceCtorEq, Nat.reduceEqDiff, Nat.reduceLT, Nat.reduceLeDiff, Nat.reduceAdd, Nat.reduceMul, Nat.reduceSub, Nat.reduceBEq, ↓reduceIte, shut_col]); simp only [go_sem, reduceCtorEq, Nat.reduceEqDiff, Nat.reduceLT, Nat.reduceLeDiff, Nat.reduceAdd, Nat.reduceMul, Nat.reduceSub, Nat.reduceBEq, ↓reduceIte]) | refine k_of (by assumption) ?_ | refine tr_block ?_ | (refine tr_skip ?_; try simp only [ex_seq, ex_block]))
      refine tr_loop_k (σ := Nat × Nat × List Tk) (fun q => [(0, sA s), (5, colA tkC 0 q.2.2), (6, iA q.2.1)]) (fun q => ⟨[], colH 99 3 q.2.2⟩) (fun q => toksF s q.1 q.2.1 q.2.2 = T ∧ s.size - q.2.1 < q.1 ∧ q.2.1 ≤ s.size ∧ q.2.2.length + q.1 ≤ 70000) (fun q => q.1) (s.size + 1, skipAt s 0, []) ⟨hT.symm, by dsimp only; omega, h0, by simp only [List.length_nil]; omega⟩ ⟨rfl, rfl, rfl, trivial⟩ rfl ?_
      rintro ⟨f, i, out⟩ ⟨hF, hf0, hi, hlen⟩ K hK
      dsimp only at hF hf0 hi hlen ⊢
      obtain ⟨f, rfl⟩ : ∃ f', f = f' + 1 := ⟨f - 1, by omega⟩
      rw [toksF_succ] at hF
      by_cases hil : i < s.size
      · rw [if_pos hil] at hF
        have d2 : decide ((i : Int) < (s.size : Nat)) = true := decide_eq_true (by omega)
        have cT := token_does s i hil (by omega)
        have hts := tokAt_size hil
        generalize tokAt s i = te at *
        obtain ⟨t, e⟩ := te
        dsimp only at *
        by_cases he : e = 0
        · obtain ⟨hp, hq, hr⟩ := hts he
          rw [if_neg (by omega)] at hF
          have d3 : decide (e = 0) = true := decide_eq_true he
          have b1 := bldTk t
          have ap := fun hp => appTk hp out t (by omega)
          have wa : IntKind.i64.wrap ((i : Int) + (t.text.size : Nat)) = ((i + t.text.size : Nat) : Int) := by rw [wrap_in (by omega)]; omega
          have cS2 := skip_does s (i + t.text.size) hq (by omega)
          have hk1 := skipAt_le (s := s) hq
          have hk2 := skipAt_ge s (i + t.text.size)
          generalize skipAt s (i + t.text.size) = i2 at *
          repeat (first | refine tr_seq_k fun _ _ => ?_ | (refine tr_region ?_; simp only [go_sem, reduceCtorEq, Nat.reduceEqDiff, Nat.reduceLT, Nat.reduceLeDiff, Nat.reduceAdd, Nat.reduceMul, Nat.reduceSub, Nat.reduceBEq, ↓reduceIte, d2]) | refine k_of (by assumption) ?_)
          refine tr_cond rfl (fun ht => ?_) (fun hf => ?_)
          · repeat (first | refine tr_seq_k fun _ _ => ?_ | (refine tr_region ?_; simp only [go_sem, reduceCtorEq, Nat.reduceEqDiff, Nat.reduceLT, Nat.reduceLeDiff, Nat.reduceAdd, Nat.reduceMul, Nat.reduceSub, Nat.reduceBEq, ↓reduceIte, d3]) | (refine call_of (cT) ?_ ?_; (first | rfl | simp only [go_sem, reduceCtorEq, Nat.reduceEqDiff, Nat.reduceLT, Nat.reduceLeDiff, Nat.reduceAdd, Nat.reduceMul, Nat.reduceSub, Nat.reduceBEq, ↓reduceIte, d3, shut_col]); simp only [go_sem, reduceCtorEq, Nat.reduceEqDiff, Nat.reduceLT, Nat.reduceLeDiff, Nat.reduceAdd, Nat.reduceMul, Nat.reduceSub, Nat.reduceBEq, ↓reduceIte, d3]) | refine k_of (by assumption) ?_ | refine tr_block ?_ | (refine tr_skip ?_; try simp only [ex_seq, ex_block]))
            refine tr_cond rfl (fun ht => ?_) (fun hf => ?_)
            · cases ht
            · repeat (first | refine tr_seq_k fun _ _ => ?_ | (refine tr_region ?_; simp only [go_sem, reduceCtorEq, Nat.reduceEqDiff, Nat.reduceLT, Nat.reduceLeDiff, Nat.reduceAdd, Nat.reduceMul, Nat.reduceSub, Nat.reduceBEq, ↓reduceIte, b1, one_max, ap, wa]) | (refine call_of (cS2) ?_ ?_; (first | rfl | simp only [go_sem, reduceCtorEq, Nat.reduceEqDiff, Nat.reduceLT, Nat.reduceLeDiff, Nat.reduceAdd, Nat.reduceMul, Nat.reduceSub, Nat.reduceBEq, ↓reduceIte, b1, one_max, ap, wa, shut_col]); simp only [go_sem, reduceCtorEq, Nat.reduceEqDiff, Nat.reduceLT, Nat.reduceLeDiff, Nat.reduceAdd, Nat.reduceMul, Nat.reduceSub, Nat.reduceBEq, ↓reduceIte, b1, one_max, ap, wa]) | refine k_of (by assumption) ?_ | (refine tr_skip ?_; try simp only [ex_seq, ex_block]))
              exact hK (f, i2, out ++ [t]) _ _ ⟨hF, by dsimp only; omega, hk1, by simp only [List.length_append, List.length_cons, List.length_nil]; omega⟩ ⟨⟨rfl, rfl, rfl, trivial⟩, Keep.of (eh := [_]) (ew := []) rfl (List.append_nil _).symm, by simp only [lowF, low_col]; rfl, rfl, Nat.le_refl _, Nat.zero_le _⟩ (by dsimp only; omega)
          · cases hf
        · rw [if_pos (by omega)] at hF
          have d3 : decide (e = 0) = false := decide_eq_false he
          repeat (first | refine tr_seq_k fun _ _ => ?_ | (refine tr_region ?_; simp only [go_sem, reduceCtorEq, Nat.reduceEqDiff, Nat.reduceLT, Nat.reduceLeDiff, Nat.reduceAdd, Nat.reduceMul, Nat.reduceSub, Nat.reduceBEq, ↓reduceIte, d2]) | refine k_of (by assumption) ?_)
          refine tr_cond rfl (fun ht => ?_) (fun hf => ?_)
          · repeat (first | refine tr_seq_k fun _ _ => ?_ | (refine tr_region ?_; simp only [go_sem, reduceCtorEq, Nat.reduceEqDiff, Nat.reduceLT, Nat.reduceLeDiff, Nat.reduceAdd, Nat.reduceMul, Nat.reduceSub, Nat.reduceBEq, ↓reduceIte, d3]) | (refine call_of (cT) ?_ ?_; (first | rfl | simp only [go_sem, reduceCtorEq, Nat.reduceEqDiff, Nat.reduceLT, Nat.reduceLeDiff, Nat.reduceAdd, Nat.reduceMul, Nat.reduceSub, Nat.reduceBEq, ↓reduceIte, d3, shut_col]); simp only [go_sem, reduceCtorEq, Nat.reduceEqDiff, Nat.reduceLT, Nat.reduceLeDiff, Nat.reduceAdd, Nat.reduceMul, Nat.reduceSub, Nat.reduceBEq, ↓reduceIte, d3]) | refine k_of (by assumption) ?_ | refine tr_block ?_ | (refine tr_skip ?_; try simp only [ex_seq, ex_block]))
            refine tr_cond rfl (fun ht => ?_) (fun hf => ?_)
            · repeat (first | refine tr_seq_k fun _ _ => ?_ | (refine tr_region ?_; simp only [go_sem, reduceCtorEq, Nat.reduceEqDiff, Nat.reduceLT, Nat.reduceLeDiff, Nat.reduceAdd, Nat.reduceMul, Nat.reduceSub, Nat.reduceBEq, ↓reduceIte]) | refine k_of (by assumption) ?_ | (refine tr_ret ?_; try simp only [ex_seq_ret, ex_block_ret]))
              refine (hQ _ _ [colA tkC 0 out, iA i, iA e] ?_ (fun m => by rw [← hF]; exact ret_col_tup tkC 99 3 out _ m [iA i, iA e] rfl)).2 <;> simp only [go_sem, reduceCtorEq, Nat.reduceEqDiff, Nat.reduceLT, Nat.reduceLeDiff, Nat.reduceAdd, Nat.reduceMul, Nat.reduceSub, Nat.reduceBEq, ↓reduceIte, Tryd.f59]
            · cases hf
          · cases hf
      · rw [if_neg hil] at hF
        have d2 : decide ((i : Int) < (s.size : Nat)) = false := decide_eq_false (by omega)
        repeat (first | refine tr_seq_k fun _ _ => ?_ | (refine tr_region ?_; simp only [go_sem, reduceCtorEq, Nat.reduceEqDiff, Nat.reduceLT, Nat.reduceLeDiff, Nat.reduceAdd, Nat.reduceMul, Nat.reduceSub, Nat.reduceBEq, ↓reduceIte, d2]) | refine k_of (by assumption) ?_)
        refine tr_cond rfl (fun ht => ?_) (fun hf => ?_)
        · cases ht
        · repeat (first | refine tr_seq_k fun _ _ => ?_ | (refine tr_region ?_; simp only [go_sem, reduceCtorEq, Nat.reduceEqDiff, Nat.reduceLT, Nat.reduceLeDiff, Nat.reduceAdd, Nat.reduceMul, Nat.reduceSub, Nat.reduceBEq, ↓reduceIte]) | refine k_of (by assumption) ?_ | (refine tr_exit ?_; try simp only [ex_seq_exit, ex_block_exit, Nat.reduceEqDiff, if_true, if_false, ex_seq, ex_block, reduceCtorEq, ↓reduceIte]) | (refine tr_ret ?_; try simp only [ex_seq_ret, ex_block_ret]))
          refine (hQ _ _ [colA tkC 0 out, iA 0, iA 0] ?_ (fun m => by rw [← hF]; exact ret_col_tup tkC 99 3 out _ m [iA 0, iA 0] rfl)).2 <;> simp only [go_sem, reduceCtorEq, Nat.reduceEqDiff, Nat.reduceLT, Nat.reduceLeDiff, Nat.reduceAdd, Nat.reduceMul, Nat.reduceSub, Nat.reduceBEq, ↓reduceIte, Tryd.f59]
theorem allK_does (s : ByteArray) : Does Tryd.prog 28 [sA s] (fun m => (.tup [slK (toksAll s).1.isEmpty (toksAll s).1, iA (toksAll s).2.1, iA (toksAll s).2.2], m)) := by
  have cT := tokens_does s
  unfold toksAll
  generalize toks s = T at *
  obtain ⟨l, p, e⟩ := T
  dsimp only at *
  by_cases he : e = 0
  · have d3 : decide (e = 0) = true := decide_eq_true he
    rw [if_neg (by omega)]
    refine does_of' Tryd.func28 rfl (by kernel_rfl) rfl Tryd.ntmps28 rfl rfl fun Q hQ => ?_
    repeat (first | refine tr_seq_k fun _ _ => ?_ | (refine tr_region ?_; simp only [go_sem, reduceCtorEq, Nat.reduceEqDiff, Nat.reduceLT, Nat.reduceLeDiff, Nat.reduceAdd, Nat.reduceMul, Nat.reduceSub, Nat.reduceBEq, ↓reduceIte, d3]) | (refine call_of (cT) ?_ ?_; (first | rfl | simp only [go_sem, reduceCtorEq, Nat.reduceEqDiff, Nat.reduceLT, Nat.reduceLeDiff, Nat.reduceAdd, Nat.reduceMul, Nat.reduceSub, Nat.reduceBEq, ↓reduceIte, d3, shut_col]); simp only [go_sem, reduceCtorEq, Nat.reduceEqDiff, Nat.reduceLT, Nat.reduceLeDiff, Nat.reduceAdd, Nat.reduceMul, Nat.reduceSub, Nat.reduceBEq, ↓reduceIte, d3]) | refine k_of (by assumption) ?_)
    refine tr_cond rfl (fun ht => ?_) (fun hf => ?_)
    · cases ht
    · repeat (first | refine tr_seq_k fun _ _ => ?_ | (refine tr_region ?_; simp only [go_sem, reduceCtorEq, Nat.reduceEqDiff, Nat.reduceLT, Nat.reduceLeDiff, Nat.reduceAdd, Nat.reduceMul, Nat.reduceSub, Nat.reduceBEq, ↓reduceIte]) | refine k_of (by assumption) ?_ | (refine tr_skip ?_; try simp only [ex_seq, ex_block]) | (refine tr_ret ?_; try simp only [ex_seq_ret, ex_block_ret]))
      refine (hQ _ _ [slK l.isEmpty l, iA 0, iA 0] ?_ (fun m => rfl)).2 <;> simp only [go_sem, reduceCtorEq, Nat.reduceEqDiff, Nat.reduceLT, Nat.reduceLeDiff, Nat.reduceAdd, Nat.reduceMul, Nat.reduceSub, Nat.reduceBEq, ↓reduceIte, Tryd.f28]
  · have d3 : decide (e = 0) = false := decide_eq_false he
    rw [if_pos (by omega)]
    refine does_of' Tryd.func28 rfl (by kernel_rfl) rfl Tryd.ntmps28 rfl rfl fun Q hQ => ?_
    repeat (first | refine tr_seq_k fun _ _ => ?_ | (refine tr_region ?_; simp only [go_sem, reduceCtorEq, Nat.reduceEqDiff, Nat.reduceLT, Nat.reduceLeDiff, Nat.reduceAdd, Nat.reduceMul, Nat.reduceSub, Nat.reduceBEq, ↓reduceIte, d3]) | (refine call_of (cT) ?_ ?_; (first | rfl | simp only [go_sem, reduceCtorEq, Nat.reduceEqDiff, Nat.reduceLT, Nat.reduceLeDiff, Nat.reduceAdd, Nat.reduceMul, Nat.reduceSub, Nat.reduceBEq, ↓reduceIte, d3, shut_col]); simp only [go_sem, reduceCtorEq, Nat.reduceEqDiff, Nat.reduceLT, Nat.reduceLeDiff, Nat.reduceAdd, Nat.reduceMul, Nat.reduceSub, Nat.reduceBEq, ↓reduceIte, d3]) | refine k_of (by assumption) ?_)
    refine tr_cond rfl (fun ht => ?_) (fun hf => ?_)
    · repeat (first | refine tr_seq_k fun _ _ => ?_ | (refine tr_region ?_; simp only [go_sem, reduceCtorEq, Nat.reduceEqDiff, Nat.reduceLT, Nat.reduceLeDiff, Nat.reduceAdd, Nat.reduceMul, Nat.reduceSub, Nat.reduceBEq, ↓reduceIte]) | refine k_of (by assumption) ?_ | (refine tr_ret ?_; try simp only [ex_seq_ret, ex_block_ret]))
      refine (hQ _ _ [.c (.sl true 0 []), iA p, iA e] ?_ (fun m => rfl)).2 <;> simp only [go_sem, reduceCtorEq, Nat.reduceEqDiff, Nat.reduceLT, Nat.reduceLeDiff, Nat.reduceAdd, Nat.reduceMul, Nat.reduceSub, Nat.reduceBEq, ↓reduceIte, Tryd.f28]
    · cases hf
end Go.Proofs.YtaeehadibckcjaaDoor
namespace Go.Vs
open Go.Vs.Ab
structure Rs where
  i : Nat
  at_ : Int
  e : Int
  deriving DecidableEq
def Rs.adv (r : Rs) : Rs := ⟨r.i + 1, r.at_, r.e⟩
def Rs.fail (L : List Tk) (n : Int) (r : Rs) (e : Int) (j : Nat) : Rs := if r.e = 0 then ⟨r.i, (match L[j]? with | some t => t.at_ | none => n), e⟩ else r
def isT (L : List Tk) (r : Rs) (s : ByteArray) : Bool := decide (r.e = 0) && (match L[r.i]? with | some t => decide (t.text = s) | none => false)
def maybeR (L : List Tk) (r : Rs) (s : ByteArray) : Rs := if isT L r s then r.adv else r
def mustT (L : List Tk) (n : Int) (r : Rs) (s : ByteArray) : Rs := if isT L r s then r.adv else r.fail L n 3 r.i
def pnum (s : ByteArray) : Bool := (lts s).all digB && (decide (s ≠ ⟨#[]⟩) && (decide ((s.size : Int) ≤ 7) && (decide ((s.size : Int) = 1) || headB (fun c => !decide ((c.toNat : Int) = 48)) s)))
def mayT (sort : Int) (s : ByteArray) : Bool := if sort = 0 then pprincipal s else if sort = 1 then pprincipal s else if sort = 2 then pconstant s || pvariable s else pnum s
def nextOk (L : List Tk) (r : Rs) (sort : Int) : Bool := decide (r.e = 0) && (match L[r.i]? with | some t => mayT sort t.text | none => false)
def nextS (L : List Tk) (r : Rs) (sort : Int) : ByteArray := if nextOk L r sort then (match L[r.i]? with | some t => t.text | none => ⟨#[]⟩) else ⟨#[]⟩
def nextR (L : List Tk) (n : Int) (r : Rs) (sort : Int) : Rs := if nextOk L r sort then r.adv else r.fail L n 3 r.i
def numK (l : List UInt8) : Int := l.foldl (fun a c => 10 * a + ((c.toNat : Int) - 48)) 0
def numB (s : ByteArray) : Int := numK (lts s)
/-! ### atoms -/
def mkAt (says pred : ByteArray) (ts : List Tm) : Atm := ⟨says, pred, ts.length, ts.getD 0 noT, ts.getD 1 noT, ts.getD 2 noT, ts.getD 3 noT⟩
abbrev kOpen : ByteArray := ⟨#[40]⟩
abbrev kShut : ByteArray := ⟨#[41]⟩
abbrev kCom : ByteArray := ⟨#[44]⟩
abbrev kDot : ByteArray := ⟨#[46]⟩
abbrev kCol : ByteArray := ⟨#[58]⟩
abbrev kSl : ByteArray := ⟨#[47]⟩
abbrev kSays : ByteArray := ⟨#[115, 97, 121, 115]⟩
abbrev kIf : ByteArray := ⟨#[105, 102]⟩
abbrev kCan : ByteArray := ⟨#[99, 97, 110, 115, 97, 121]⟩
def saidL (L : List Tk) (n : Int) : Nat → Rs → List Tm → Rs × List Tm
  | 0, r, ts => (r, ts)
  | f + 1, r, ts =>
    if r.e = 0 then
      if (nextR L n r 2).e = 0 then
        if ts.length = 4 then ((nextR L n r 2).fail L n 4 r.i, ts)
        else if isT L (nextR L n r 2) kCom then saidL L n f (nextR L n r 2).adv (ts ++ [⟨pvariable (nextS L r 2), nextS L r 2⟩])
        else (nextR L n r 2, ts ++ [⟨pvariable (nextS L r 2), nextS L r 2⟩])
      else (nextR L n r 2, ts)
    else (r, ts)
def saidF (L : List Tk) (n : Int) (r : Rs) (says : ByteArray) : Rs × Atm :=
  if isT L (nextR L n r 1) kOpen then (mustT L n (saidL L n 5 (nextR L n r 1).adv []).1 kShut, mkAt says (nextS L r 1) (saidL L n 5 (nextR L n r 1).adv []).2)
  else (nextR L n r 1, mkAt says (nextS L r 1) [])
def atomF (L : List Tk) (n : Int) (r : Rs) : Rs × Atm := saidF L n (mustT L n (nextR L n r 0) kSays) (nextS L r 0)
def bodyL (L : List Tk) (n : Int) : Nat → Rs → List Atm → Rs × List Atm
  | 0, r, out => (r, out)
  | f + 1, r, out =>
    if r.e = 0 then
      if isT L (atomF L n r).1 kCom then bodyL L n f (atomF L n r).1.adv (out ++ [(atomF L n r).2])
      else ((atomF L n r).1, out ++ [(atomF L n r).2])
    else (r, out)
def bodyF (L : List Tk) (n : Int) (r : Rs) : Rs × List Atm := if isT L r kIf then bodyL L n (L.length + 1) r.adv [] else (r, [])
def clearL (L : List Tk) (n : Int) : Nat → Rs → List ByteArray → Rs × List ByteArray
  | 0, r, out => (r, out)
  | f + 1, r, out =>
    if r.e = 0 then
      if isT L (nextR L n r 0) kCom then clearL L n f (nextR L n r 0).adv (out ++ [nextS L r 0])
      else (nextR L n r 0, out ++ [nextS L r 0])
    else (r, out)
def clearF (L : List Tk) (n : Int) (r : Rs) : Rs × ByteArray × List ByteArray :=
  ((clearL L n (L.length + 1) (mustT L n (nextR L n r 0) kCol) []).1, nextS L r 0, (clearL L n (L.length + 1) (mustT L n (nextR L n r 0) kCol) []).2)
/-! ### a reader never goes back, nor beyond the tokens; an error stays -/
theorem fail_i (L : List Tk) (n : Int) (r : Rs) (e : Int) (j : Nat) : (r.fail L n e j).i = r.i := by
  unfold Rs.fail
  split <;> rfl
theorem isT_lt {L : List Tk} {r : Rs} {s : ByteArray} (h : isT L r s = true) : r.e = 0 ∧ r.i < L.length := by
  unfold isT at h
  rw [Bool.and_eq_true] at h
  refine ⟨of_decide_eq_true h.1, ?_⟩
  cases hl : L[r.i]? with
  | none => rw [hl] at h; cases h.2
  | some t => exact (List.getElem?_eq_some_iff.1 hl).1
theorem nextOk_lt {L : List Tk} {r : Rs} {s : Int} (h : nextOk L r s = true) : r.e = 0 ∧ r.i < L.length := by
  unfold nextOk at h
  rw [Bool.and_eq_true] at h
  refine ⟨of_decide_eq_true h.1, ?_⟩
  cases hl : L[r.i]? with
  | none => rw [hl] at h; cases h.2
  | some t => exact (List.getElem?_eq_some_iff.1 hl).1
theorem must_i {L : List Tk} {n : Int} {r : Rs} {s : ByteArray} : r.i ≤ (mustT L n r s).i ∧ (r.i ≤ L.length → (mustT L n r s).i ≤ L.length) := by
  unfold mustT
  split
  · rename_i h
    have := isT_lt h
    exact ⟨Nat.le_succ _, fun _ => this.2⟩
  · rw [fail_i]
    exact ⟨Nat.le_refl _, id⟩
theorem next_i {L : List Tk} {n : Int} {r : Rs} {s : Int} : r.i ≤ (nextR L n r s).i ∧ (r.i ≤ L.length → (nextR L n r s).i ≤ L.length) := by
  unfold nextR
  split
  · rename_i h
    have := nextOk_lt h
    exact ⟨Nat.le_succ _, fun _ => this.2⟩
  · rw [fail_i]
    exact ⟨Nat.le_refl _, id⟩
theorem saidL_i (L : List Tk) (n : Int) : ∀ (f : Nat) (r : Rs) (ts : List Tm), r.i ≤ (saidL L n f r ts).1.i ∧ (r.i ≤ L.length → (saidL L n f r ts).1.i ≤ L.length)
  | 0, r, ts => ⟨Nat.le_refl _, id⟩
  | f + 1, r, ts => by
    obtain ⟨h1, h2⟩ := next_i (L := L) (n := n) (r := r) (s := 2)
    unfold saidL
    split
    · split
      · split
        · rw [fail_i]
          exact ⟨h1, h2⟩
        · split
          · rename_i hc
            have h3 := (isT_lt hc).2
            obtain ⟨h4, h5⟩ := saidL_i L n f (nextR L n r 2).adv (ts ++ [⟨pvariable (nextS L r 2), nextS L r 2⟩])
            have e : (nextR L n r 2).adv.i = (nextR L n r 2).i + 1 := rfl
            rw [e] at h4 h5
            exact ⟨by omega, fun _ => h5 h3⟩
          · exact ⟨h1, h2⟩
      · exact ⟨h1, h2⟩
    · exact ⟨Nat.le_refl _, id⟩
theorem said_i {L : List Tk} {n : Int} {r : Rs} {s : ByteArray} : r.i ≤ (saidF L n r s).1.i ∧ (r.i ≤ L.length → (saidF L n r s).1.i ≤ L.length) := by
  obtain ⟨h1, h2⟩ := next_i (L := L) (n := n) (r := r) (s := 1)
  unfold saidF
  split
  · rename_i hc
    have h3 := (isT_lt hc).2
    obtain ⟨h4, h5⟩ := saidL_i L n 5 (nextR L n r 1).adv []
    have e : (nextR L n r 1).adv.i = (nextR L n r 1).i + 1 := rfl
    rw [e] at h4 h5
    obtain ⟨h6, h7⟩ := must_i (L := L) (n := n) (r := (saidL L n 5 (nextR L n r 1).adv []).1) (s := kShut)
    exact ⟨by dsimp only; omega, fun _ => h7 (h5 h3)⟩
  · exact ⟨h1, h2⟩
theorem atom_i {L : List Tk} {n : Int} {r : Rs} : r.i ≤ (atomF L n r).1.i ∧ (r.i ≤ L.length → (atomF L n r).1.i ≤ L.length) := by
  obtain ⟨h1, h2⟩ := next_i (L := L) (n := n) (r := r) (s := 0)
  obtain ⟨h3, h4⟩ := must_i (L := L) (n := n) (r := nextR L n r 0) (s := kSays)
  obtain ⟨h5, h6⟩ := said_i (L := L) (n := n) (r := mustT L n (nextR L n r 0) kSays) (s := nextS L r 0)
  exact ⟨by unfold atomF; omega, fun h => h6 (h4 (h2 h))⟩
theorem bodyL_i (L : List Tk) (n : Int) : ∀ (f : Nat) (r : Rs) (out : List Atm), r.i ≤ (bodyL L n f r out).1.i ∧ (r.i ≤ L.length → (bodyL L n f r out).1.i ≤ L.length)
  | 0, r, out => ⟨Nat.le_refl _, id⟩
  | f + 1, r, out => by
    obtain ⟨h1, h2⟩ := atom_i (L := L) (n := n) (r := r)
    unfold bodyL
    split
    · split
      · rename_i hc
        have h3 := (isT_lt hc).2
        obtain ⟨h4, h5⟩ := bodyL_i L n f (atomF L n r).1.adv (out ++ [(atomF L n r).2])
        have e : (atomF L n r).1.adv.i = (atomF L n r).1.i + 1 := rfl
        rw [e] at h4 h5
        exact ⟨by omega, fun _ => h5 h3⟩
      · exact ⟨h1, h2⟩
    · exact ⟨Nat.le_refl _, id⟩
theorem body_i {L : List Tk} {n : Int} {r : Rs} : r.i ≤ (bodyF L n r).1.i ∧ (r.i ≤ L.length → (bodyF L n r).1.i ≤ L.length) := by
  unfold bodyF
  split
  · rename_i hc
    have h3 := (isT_lt hc).2
    obtain ⟨h4, h5⟩ := bodyL_i L n (L.length + 1) r.adv []
    have e : r.adv.i = r.i + 1 := rfl
    rw [e] at h4 h5
    exact ⟨by omega, fun _ => h5 h3⟩
  · exact ⟨Nat.le_refl _, id⟩
theorem clearL_i (L : List Tk) (n : Int) : ∀ (f : Nat) (r : Rs) (out : List ByteArray), r.i ≤ (clearL L n f r out).1.i ∧ (r.i ≤ L.length → (clearL L n f r out).1.i ≤ L.length)
  | 0, r, out => ⟨Nat.le_refl _, id⟩
  | f + 1, r, out => by
    obtain ⟨h1, h2⟩ := next_i (L := L) (n := n) (r := r) (s := 0)
    unfold clearL
    split
    · split
      · rename_i hc
        have h3 := (isT_lt hc).2
        obtain ⟨h4, h5⟩ := clearL_i L n f (nextR L n r 0).adv (out ++ [nextS L r 0])
        have e : (nextR L n r 0).adv.i = (nextR L n r 0).i + 1 := rfl
        rw [e] at h4 h5
        exact ⟨by omega, fun _ => h5 h3⟩
      · exact ⟨h1, h2⟩
    · exact ⟨Nat.le_refl _, id⟩
theorem clear_i {L : List Tk} {n : Int} {r : Rs} : r.i ≤ (clearF L n r).1.i ∧ (r.i ≤ L.length → (clearF L n r).1.i ≤ L.length) := by
  obtain ⟨h1, h2⟩ := next_i (L := L) (n := n) (r := r) (s := 0)
  obtain ⟨h3, h4⟩ := must_i (L := L) (n := n) (r := nextR L n r 0) (s := kCol)
  obtain ⟨h5, h6⟩ := clearL_i L n (L.length + 1) (mustT L n (nextR L n r 0) kCol) []
  exact ⟨by unfold clearF; dsimp only; omega, fun h => h6 (h4 (h2 h))⟩
end Go.Vs
namespace Go.Vs
def onceR (L : List Tk) (n : Int) (r : Rs) (was : Bool) : Rs := if was then r.fail L n 5 (r.i - 1) else r
theorem numK_snoc (l : List UInt8) (c : UInt8) : numK (l ++ [c]) = 10 * numK l + ((c.toNat : Int) - 48) := by
  unfold numK
  rw [List.foldl_append]
  rfl
theorem numK_take {l : List UInt8} (h : ∀ c ∈ l, digB c = true) : ∀ k, k ≤ l.length → 0 ≤ numK (l.take k) ∧ numK (l.take k) < (10 ^ k : Nat)
  | 0, _ => ⟨Int.le_refl _, by show (0 : Int) < ((10 ^ 0 : Nat) : Int); decide⟩
  | k + 1, hk => by
    have h1 := numK_take h k (by omega)
    have hc := h l[k] (List.getElem_mem (by omega))
    simp only [digB, Bool.and_eq_true, decide_eq_true_eq] at hc
    rw [List.take_succ_eq_append_getElem (by omega), numK_snoc, Nat.pow_succ]
    generalize numK (l.take k) = x at *
    generalize 10 ^ k = y at *
    omega
end Go.Vs
namespace Go.Vs.Ab
open Go.RowKit
variable {P : Program} {X : Mem} {W0 w w' : World} {m : Mm}
theorem lows_all {i j : Nat} : ∀ {cs : List AV}, (∀ (k : Nat) (c : AV), cs[k]? = some c → low i j c = true) → lows i j cs = true
  | [], _ => rfl
  | c :: r, h => by
    simp only [lows, Bool.and_eq_true]
    exact ⟨h 0 c rfl, lows_all fun k d hd => h (k + 1) d (by simpa using hd)⟩
theorem lowB_all {i j : Nat} : ∀ {bs : List Blk}, (∀ (k : Nat) (b : Blk), bs[k]? = some b → lows i j b.cs = true) → lowB i j bs = true
  | [], _ => rfl
  | c :: r, h => by
    simp only [lowB, Bool.and_eq_true]
    exact ⟨h 0 c rfl, lowB_all fun k d hd => h (k + 1) d (by simpa using hd)⟩
theorem get_pair {T U : Type} {vs : List T} {xs : List U} (h : vs.length = xs.length) {k : Nat} {c : T} (hc : vs[k]? = some c) : ∃ x, xs[k]? = some x := by
  have := (List.getElem?_eq_some_iff.1 hc).1
  exact ⟨xs[k]'(by omega), List.getElem?_eq_getElem _⟩
theorem Rep.lowed (M : MR X W0 m w) {c : AV} {x : Value} (h : Rep X c x) : low m.hp.length m.hw.length c = true := by
  induction h with
  | c h => rfl
  | agg h => rfl
  | tup hl _ ih =>
    simp only [low]
    refine lows_all fun k c hc => ?_
    obtain ⟨x, hx⟩ := get_pair hl hc
    exact ih k c x hc hx
  | own h hn hc hx ht =>
    obtain ⟨T, h1, _⟩ := ht
    have := M.odom _ T h1
    simp only [low, Nat.blt_eq]
    exact this
  | ptr h =>
    have := M.ldom _ _ h
    simp only [low, Nat.blt_eq]
    exact this
  | cptr h hx => rfl
  | fn h1 _ h3 _ ih1 ih2 =>
    simp only [low, Bool.and_eq_true]
    refine ⟨lows_all fun k c hc => ?_, lows_all fun k c hc => ?_⟩
    · obtain ⟨x, hx⟩ := get_pair h1 hc
      exact ih1 k c x hc hx
    · obtain ⟨x, hx⟩ := get_pair h3 hc
      exact ih2 k c x hc hx
  | lsl h ho hn hc hr =>
    have := M.ldom _ _ h
    simp only [low, Nat.blt_eq]
    exact this
  | mapp h =>
    have := M.ldom _ _ h
    simp only [low, Nat.blt_eq]
    exact this
  | ifc _ ih => simpa [low] using ih
  | strc hl _ h1 ih =>
    simp only [low]
    refine lows_all fun k c hc => ?_
    obtain ⟨x, hx⟩ := get_pair hl hc
    exact ih k c x hc hx
theorem MR.lowed (M : MR X W0 m w) : lowB m.hp.length m.hw.length m.hp = true := by
  refine lowB_all fun k b hb => ?_
  obtain ⟨β, _, _, _, hB⟩ := M.locs k b hb
  cases hB with
  | dead h => rw [h]; rfl
  | ent h => rw [h]; rfl
  | bld h hw hv hf hn =>
    rw [h]
    simp only [lows, low, Bool.and_true]
    exact hv.lowed M
  | byt h => rw [h]; rfl
  | cells hw hl hr hz hf =>
    refine lows_all fun k c hc => ?_
    obtain ⟨x, hx⟩ := get_pair hr.1 hc
    exact (hr.2 k c x hc hx).lowed M
theorem tr_low {R : MRel} [hR : RelOk R] {nt : Nat} {c : Code} {fr : Fr} {Q : Ex → Fr → Mm → Prop} (h : lowB m.hp.length m.hw.length m.hp = true → Tr R P nt c fr m Q) : Tr R P nt c fr m Q := fun X W0 w a F M => h M.lowed X W0 w a F M
theorem GivesW.trim {F : FuncId} {args : List AV} {r r' : AV} {m1 m2 : Mm} (h : GivesW P F args m r m1) (hk : Keep m2 m1) (hl : lowB m.hp.length m.hw.length m.hp = true → lowB m2.hp.length m2.hw.length m2.hp = true)
    (hp : m.hp.length ≤ m2.hp.length) (hq : m.hw.length ≤ m2.hw.length) (hr : ∀ (X : Mem) (i j : Nat) (v : Value), Rep X r v → Rep (X.cut i j) r' v) : GivesW P F args m r' m2 := by
  refine ⟨h.1, fun X W0 w vs M ha => (h.2 X W0 w vs M ha).mono ?_⟩
  rintro _ w' ⟨v, X', rfl, h1, h2, h3⟩
  refine ⟨v, X'.cut m2.hp.length m2.hw.length, rfl, ⟨h1.cell, h1.old, fun i β hi => ?_, fun k T hT => ?_, h1.room⟩, hr _ _ _ _ h2, h3.cut hk (hl M.lowed)⟩
  · have := M.ldom i β hi
    simp only [Mem.cut]
    rw [if_pos (by omega)]
    exact h1.loc i β hi
  · have := M.odom k T hT
    obtain ⟨T', g1, g2⟩ := h1.own k T hT
    refine ⟨T', ?_, g2⟩
    simp only [Mem.cut]
    rw [if_pos (by omega)]
    exact g1
theorem cut_shut {r r' : AV} (hs : Ab.shut r = some r') (X : Mem) (i j : Nat) (v : Value) (h : Rep X r v) : Rep (X.cut i j) r' v := shut_rep (X := X) (Y := X.cut i j) rfl hs h
theorem cut_nil (X : Mem) (i j : Nat) (v : Value) (h : Rep X (.tup []) v) : Rep (X.cut i j) (.tup []) v := h.cut rfl
/-! ### one block among others -/
theorem set_app {A E : List Blk} {b : Nat} (h : b < A.length) (x : Blk) : (A ++ E).set b x = A.set b x ++ E := by
  rw [List.set_append]
  rw [if_pos h]
theorem sa_get {A E : List Blk} {b : Nat} (h : b < A.length) (x : Blk) : (A.set b x ++ E)[b]? = some x := by
  rw [List.getElem?_append_left (by rw [List.length_set]; exact h)]
  exact List.getElem?_set_self h
theorem sa_set {A E : List Blk} {b : Nat} (h : b < A.length) (x y : Blk) : (A.set b x ++ E).set b y = A.set b y ++ E := by
  rw [List.set_append, if_pos (by rw [List.length_set]; exact h), List.set_set]
theorem s_get {A : List Blk} {b : Nat} (h : b < A.length) (x : Blk) : (A.set b x)[b]? = some x := List.getElem?_set_self h
theorem s_set (A : List Blk) (b : Nat) (x y : Blk) : (A.set b x).set b y = A.set b y := List.set_set _
theorem sa_get0 {A E : List Blk} {b : Nat} (x c : Blk) : (A.set b x ++ c :: E)[A.length]? = some c := by
  rw [List.getElem?_append_right (by rw [List.length_set]; exact Nat.le_refl _), List.length_set, Nat.sub_self]
  rfl
theorem sa_get1 {A E : List Blk} {b : Nat} (x c d : Blk) : (A.set b x ++ c :: d :: E)[A.length + 1]? = some d := by
  rw [List.getElem?_append_right (by rw [List.length_set]; exact Nat.le_add_right _ _), List.length_set, Nat.add_sub_cancel_left]
  rfl
theorem sa_set0 {A E : List Blk} {b : Nat} (x c y : Blk) : (A.set b x ++ c :: E).set A.length y = A.set b x ++ y :: E := by
  rw [List.set_append, if_neg (by rw [List.length_set]; exact Nat.lt_irrefl _), List.length_set, Nat.sub_self]
  rfl
theorem sa_set1 {A E : List Blk} {b : Nat} (x c d y : Blk) : (A.set b x ++ c :: d :: E).set (A.length + 1) y = A.set b x ++ c :: y :: E := by
  rw [List.set_append, if_neg (by rw [List.length_set]; omega), List.length_set, Nat.add_sub_cancel_left]
  rfl
theorem lowB_cat {i j : Nat} : ∀ {a b : List Blk}, lowB i j (a ++ b) = (lowB i j a && lowB i j b)
  | [], b => by simp [lowB]
  | x :: r, b => by simp only [List.cons_append, lowB, lowB_cat (a := r) (b := b), Bool.and_assoc]
end Go.Vs.Ab
namespace Go.Proofs.YtaeehadibckcjaaDoor
open Go.RowKit Go.Vs Go.Vs.Ab
set_option maxRecDepth 100000
set_option maxHeartbeats 4000000
def rdC (ex : Bool) (L : List Tk) (n : Int) (r : Rs) : List AV := [.c (.sl ex L.length (L.flatMap tkC)), iA r.i, iA n, iA r.at_, iA r.e]
abbrev rdB (ex : Bool) (L : List Tk) (n : Int) (r : Rs) : Blk := ⟨false, rdC ex L n r⟩
attribute [go_sem] rdC
theorem idxTk {ex : Bool} {L : List Tk} {k : Nat} (h : k < L.length) : aIndexAddr Tryd.prog 61 (.c (.sl ex L.length (L.flatMap tkC))) (.c (.v (.int .i64 (k : Int)))) = some (.cptr (tkC L[k] ++ (L.drop (k + 1)).flatMap tkC)) :=
  idx_R tkC 3 (fun _ => rfl) Tryd.underlying61 sz99 (by decide) h
variable {A : List Blk} {hw : List Hw} {b : Nat} {ex : Bool} {L : List Tk} {n : Int}
theorem fail_gives (hb : b < A.length) (r : Rs) (e : Int) (j : Nat) : GivesW Tryd.prog 62 [.ptr b 0, iA e, iA j] ⟨A.set b (rdB ex L n r), hw⟩ (.tup []) ⟨A.set b (rdB ex L n (r.fail L n e j)), hw⟩ := by
  have g := fun x => s_get (A := A) hb x
  cases d1 : decide (r.e = 0) with
  | false =>
    have hr : r.fail L n e j = r := if_neg (of_decide_eq_false d1)
    rw [hr]
    refine givesW_of' Tryd.func62 rfl (by kernel_rfl) Tryd.ntmps62 rfl rfl fun Q hQ => ?_
    repeat (first | refine tr_seq_k fun _ _ => ?_ | (refine tr_region ?_; simp only [go_sem, reduceCtorEq, Nat.reduceEqDiff, Nat.reduceLT, Nat.reduceLeDiff, Nat.reduceAdd, Nat.reduceMul, Nat.reduceSub, Nat.reduceBEq, ↓reduceIte, g, d1]) | refine k_of (by assumption) ?_)
    refine tr_cond rfl (fun ht => ?_) (fun hf => ?_)
    · repeat ((refine tr_ret ?_; try simp only [ex_seq_ret, ex_block_ret]))
      exact (hQ _ _ [] rfl rfl rfl).2
    · cases hf
  | true =>
    by_cases hj : j < L.length
    · have hr : r.fail L n e j = ⟨r.i, L[j].at_, e⟩ := by
        unfold Rs.fail
        rw [if_pos (of_decide_eq_true d1), List.getElem?_eq_getElem hj]
      have ix := idxTk (ex := ex) hj
      have d2 : decide ((j : Int) < (L.length : Nat)) = true := decide_eq_true (by omega)
      rw [hr]
      generalize L[j] = t at *
      refine givesW_of' Tryd.func62 rfl (by kernel_rfl) Tryd.ntmps62 rfl rfl fun Q hQ => ?_
      repeat (first | refine tr_seq_k fun _ _ => ?_ | (refine tr_region ?_; simp only [go_sem, reduceCtorEq, Nat.reduceEqDiff, Nat.reduceLT, Nat.reduceLeDiff, Nat.reduceAdd, Nat.reduceMul, Nat.reduceSub, Nat.reduceBEq, ↓reduceIte, g, d1]) | refine k_of (by assumption) ?_)
      refine tr_cond rfl (fun ht => ?_) (fun hf => ?_)
      · cases ht
      · repeat (first | refine tr_seq_k fun _ _ => ?_ | (refine tr_region ?_; simp only [go_sem, reduceCtorEq, Nat.reduceEqDiff, Nat.reduceLT, Nat.reduceLeDiff, Nat.reduceAdd, Nat.reduceMul, Nat.reduceSub, Nat.reduceBEq, ↓reduceIte, g, s_set, d2]) | refine k_of (by assumption) ?_ | (refine tr_skip ?_; try simp only [ex_seq, ex_block]))
        refine tr_cond rfl (fun ht => ?_) (fun hf => ?_)
        · repeat ((refine tr_region ?_; simp only [go_sem, reduceCtorEq, Nat.reduceEqDiff, Nat.reduceLT, Nat.reduceLeDiff, Nat.reduceAdd, Nat.reduceMul, Nat.reduceSub, Nat.reduceBEq, ↓reduceIte, g, s_set, ix]))
          exact (hQ _ _ [] rfl rfl rfl).1
        · cases hf
    · have hr : r.fail L n e j = ⟨r.i, n, e⟩ := by
        unfold Rs.fail
        rw [if_pos (of_decide_eq_true d1), List.getElem?_eq_none (by omega)]
      have d2 : decide ((j : Int) < (L.length : Nat)) = false := decide_eq_false (by omega)
      rw [hr]
      refine givesW_of' Tryd.func62 rfl (by kernel_rfl) Tryd.ntmps62 rfl rfl fun Q hQ => ?_
      repeat (first | refine tr_seq_k fun _ _ => ?_ | (refine tr_region ?_; simp only [go_sem, reduceCtorEq, Nat.reduceEqDiff, Nat.reduceLT, Nat.reduceLeDiff, Nat.reduceAdd, Nat.reduceMul, Nat.reduceSub, Nat.reduceBEq, ↓reduceIte, g, d1]) | refine k_of (by assumption) ?_)
      refine tr_cond rfl (fun ht => ?_) (fun hf => ?_)
      · cases ht
      · repeat (first | refine tr_seq_k fun _ _ => ?_ | (refine tr_region ?_; simp only [go_sem, reduceCtorEq, Nat.reduceEqDiff, Nat.reduceLT, Nat.reduceLeDiff, Nat.reduceAdd, Nat.reduceMul, Nat.reduceSub, Nat.reduceBEq, ↓reduceIte, g, s_set, d2]) | refine k_of (by assumption) ?_ | (refine tr_skip ?_; try simp only [ex_seq, ex_block]))
        refine tr_cond rfl (fun ht => ?_) (fun hf => ?_)
        · cases ht
        · repeat ((refine tr_skip ?_; try simp only [ex_seq, ex_block]))
          exact (hQ _ _ [] rfl rfl rfl).1
theorem is_gives (hb : b < A.length) (r : Rs) (s : ByteArray) : GivesW Tryd.prog 60 [.ptr b 0, sA s] ⟨A.set b (rdB ex L n r), hw⟩ (bA (isT L r s)) ⟨A.set b (rdB ex L n r), hw⟩ := by
  have g := fun x => s_get (A := A) hb x
  cases d1 : decide (r.e = 0) with
  | false =>
    have hr : isT L r s = false := by unfold isT; rw [d1]; rfl
    rw [hr]
    refine givesW_of' Tryd.func60 rfl (by kernel_rfl) Tryd.ntmps60 rfl rfl fun Q hQ => ?_
    repeat (first | refine tr_seq_k fun _ _ => ?_ | (refine tr_region ?_; simp only [go_sem, reduceCtorEq, Nat.reduceEqDiff, Nat.reduceLT, Nat.reduceLeDiff, Nat.reduceAdd, Nat.reduceMul, Nat.reduceSub, Nat.reduceBEq, ↓reduceIte, g, d1]) | (refine tr_drawC (id := 1) follows 10000 (by kernel_rfl) ?_; simp only [go_sem, reduceCtorEq, Nat.reduceEqDiff, Nat.reduceLT, Nat.reduceLeDiff, Nat.reduceAdd, Nat.reduceMul, Nat.reduceSub, Nat.reduceBEq, ↓reduceIte, g, d1]) | refine k_of (by assumption) ?_ | (refine tr_ret ?_; try simp only [ex_seq_ret, ex_block_ret]))
    refine (hQ _ _ [bA false] ?_ rfl rfl).2 <;> simp only [go_sem, reduceCtorEq, Nat.reduceEqDiff, Nat.reduceLT, Nat.reduceLeDiff, Nat.reduceAdd, Nat.reduceMul, Nat.reduceSub, Nat.reduceBEq, ↓reduceIte, Tryd.f60]
  | true =>
    by_cases hj : r.i < L.length
    · have hr : isT L r s = decide (L[r.i].text = s) := by unfold isT; rw [d1, List.getElem?_eq_getElem hj]; rfl
      have ix := idxTk (ex := ex) hj
      have d2 : decide ((r.i : Int) < (L.length : Nat)) = true := decide_eq_true (by omega)
      rw [hr]
      generalize L[r.i] = t at *
      cases d3 : decide (t.text = s)
      all_goals
        refine givesW_of' Tryd.func60 rfl (by kernel_rfl) Tryd.ntmps60 rfl rfl fun Q hQ => ?_
        repeat (first | refine tr_seq_k fun _ _ => ?_ | (refine tr_region ?_; simp only [go_sem, reduceCtorEq, Nat.reduceEqDiff, Nat.reduceLT, Nat.reduceLeDiff, Nat.reduceAdd, Nat.reduceMul, Nat.reduceSub, Nat.reduceBEq, ↓reduceIte, g, d1, d2, ix, d3]) | (refine tr_drawC (id := 1) follows 10000 (by kernel_rfl) ?_; simp only [go_sem, reduceCtorEq, Nat.reduceEqDiff, Nat.reduceLT, Nat.reduceLeDiff, Nat.reduceAdd, Nat.reduceMul, Nat.reduceSub, Nat.reduceBEq, ↓reduceIte, g, d1, d2, ix, d3]) | refine k_of (by assumption) ?_ | (refine tr_ret ?_; try simp only [ex_seq_ret, ex_block_ret]))
        refine (hQ _ _ [bA _] ?_ rfl rfl).2 <;> simp only [go_sem, reduceCtorEq, Nat.reduceEqDiff, Nat.reduceLT, Nat.reduceLeDiff, Nat.reduceAdd, Nat.reduceMul, Nat.reduceSub, Nat.reduceBEq, ↓reduceIte, Tryd.f60]
    · have hr : isT L r s = false := by unfold isT; rw [d1, List.getElem?_eq_none (by omega)]; rfl
      have d2 : decide ((r.i : Int) < (L.length : Nat)) = false := decide_eq_false (by omega)
      rw [hr]
      refine givesW_of' Tryd.func60 rfl (by kernel_rfl) Tryd.ntmps60 rfl rfl fun Q hQ => ?_
      repeat (first | refine tr_seq_k fun _ _ => ?_ | (refine tr_region ?_; simp only [go_sem, reduceCtorEq, Nat.reduceEqDiff, Nat.reduceLT, Nat.reduceLeDiff, Nat.reduceAdd, Nat.reduceMul, Nat.reduceSub, Nat.reduceBEq, ↓reduceIte, g, d1, d2]) | (refine tr_drawC (id := 1) follows 10000 (by kernel_rfl) ?_; simp only [go_sem, reduceCtorEq, Nat.reduceEqDiff, Nat.reduceLT, Nat.reduceLeDiff, Nat.reduceAdd, Nat.reduceMul, Nat.reduceSub, Nat.reduceBEq, ↓reduceIte, g, d1, d2]) | refine k_of (by assumption) ?_ | (refine tr_ret ?_; try simp only [ex_seq_ret, ex_block_ret]))
      refine (hQ _ _ [bA false] ?_ rfl rfl).2 <;> simp only [go_sem, reduceCtorEq, Nat.reduceEqDiff, Nat.reduceLT, Nat.reduceLeDiff, Nat.reduceAdd, Nat.reduceMul, Nat.reduceSub, Nat.reduceBEq, ↓reduceIte, Tryd.f60]
theorem maybe_gives (hb : b < A.length) (hL : L.length ≤ 1000000) (r : Rs) (s : ByteArray) : GivesW Tryd.prog 29 [.ptr b 0, sA s] ⟨A.set b (rdB ex L n r), hw⟩ (bA (isT L r s)) ⟨A.set b (rdB ex L n (maybeR L r s)), hw⟩ := by
  have g := fun x => s_get (A := A) hb x
  have cI := is_gives (hw := hw) (ex := ex) (L := L) (n := n) hb r s
  unfold maybeR
  cases h1 : isT L r s with
  | false =>
    rw [h1] at cI
    rw [if_neg Bool.false_ne_true]
    refine givesW_of' Tryd.func29 rfl (by kernel_rfl) Tryd.ntmps29 rfl rfl fun Q hQ => ?_
    repeat (first | refine tr_seq_k fun _ _ => ?_ | (refine tr_region ?_; simp only [go_sem, reduceCtorEq, Nat.reduceEqDiff, Nat.reduceLT, Nat.reduceLeDiff, Nat.reduceAdd, Nat.reduceMul, Nat.reduceSub, Nat.reduceBEq, ↓reduceIte, g]) | (refine call_givesW (cI) ?_; (try dsimp only); (try simp only [go_sem, reduceCtorEq, Nat.reduceEqDiff, Nat.reduceLT, Nat.reduceLeDiff, Nat.reduceAdd, Nat.reduceMul, Nat.reduceSub, Nat.reduceBEq, ↓reduceIte, g])) | refine k_of (by assumption) ?_)
    refine tr_cond rfl (fun ht => ?_) (fun hf => ?_)
    · cases ht
    · repeat (first | refine tr_seq_k fun _ _ => ?_ | (refine tr_region ?_; simp only [go_sem, reduceCtorEq, Nat.reduceEqDiff, Nat.reduceLT, Nat.reduceLeDiff, Nat.reduceAdd, Nat.reduceMul, Nat.reduceSub, Nat.reduceBEq, ↓reduceIte]) | refine k_of (by assumption) ?_ | (refine tr_skip ?_; try simp only [ex_seq, ex_block]) | (refine tr_ret ?_; try simp only [ex_seq_ret, ex_block_ret]))
      refine (hQ _ _ [bA false] ?_ rfl rfl).2 <;> simp only [go_sem, reduceCtorEq, Nat.reduceEqDiff, Nat.reduceLT, Nat.reduceLeDiff, Nat.reduceAdd, Nat.reduceMul, Nat.reduceSub, Nat.reduceBEq, ↓reduceIte, Tryd.f29]
  | true =>
    have hi := (isT_lt h1).2
    have ws := wrap_succ (show r.i ≤ 1000000000 by omega)
    rw [h1] at cI
    rw [if_pos rfl]
    refine givesW_of' Tryd.func29 rfl (by kernel_rfl) Tryd.ntmps29 rfl rfl fun Q hQ => ?_
    repeat (first | refine tr_seq_k fun _ _ => ?_ | (refine tr_region ?_; simp only [go_sem, reduceCtorEq, Nat.reduceEqDiff, Nat.reduceLT, Nat.reduceLeDiff, Nat.reduceAdd, Nat.reduceMul, Nat.reduceSub, Nat.reduceBEq, ↓reduceIte, g]) | (refine call_givesW (cI) ?_; (try dsimp only); (try simp only [go_sem, reduceCtorEq, Nat.reduceEqDiff, Nat.reduceLT, Nat.reduceLeDiff, Nat.reduceAdd, Nat.reduceMul, Nat.reduceSub, Nat.reduceBEq, ↓reduceIte, g])) | refine k_of (by assumption) ?_)
    refine tr_cond rfl (fun ht => ?_) (fun hf => ?_)
    · repeat (first | refine tr_seq_k fun _ _ => ?_ | (refine tr_region ?_; simp only [go_sem, reduceCtorEq, Nat.reduceEqDiff, Nat.reduceLT, Nat.reduceLeDiff, Nat.reduceAdd, Nat.reduceMul, Nat.reduceSub, Nat.reduceBEq, ↓reduceIte, g, s_set, ws]) | refine k_of (by assumption) ?_ | (refine tr_ret ?_; try simp only [ex_seq_ret, ex_block_ret]))
      refine (hQ _ _ [bA true] ?_ rfl rfl).2 <;> simp only [go_sem, reduceCtorEq, Nat.reduceEqDiff, Nat.reduceLT, Nat.reduceLeDiff, Nat.reduceAdd, Nat.reduceMul, Nat.reduceSub, Nat.reduceBEq, ↓reduceIte, Tryd.f29]
    · cases hf
theorem must_gives (hb : b < A.length) (hL : L.length ≤ 1000000) (r : Rs) (s : ByteArray) : GivesW Tryd.prog 31 [.ptr b 0, sA s] ⟨A.set b (rdB ex L n r), hw⟩ (.tup []) ⟨A.set b (rdB ex L n (mustT L n r s)), hw⟩ := by
  have g := fun x => s_get (A := A) hb x
  have cI := maybe_gives (hw := hw) (ex := ex) (L := L) (n := n) hb hL r s
  have cF := fail_gives (hw := hw) (ex := ex) (L := L) (n := n) hb r 3 r.i
  unfold mustT
  unfold maybeR at cI
  cases h1 : isT L r s with
  | false =>
    rw [h1, if_neg Bool.false_ne_true] at cI
    rw [if_neg Bool.false_ne_true]
    refine givesW_of' Tryd.func31 rfl (by kernel_rfl) Tryd.ntmps31 rfl rfl fun Q hQ => ?_
    repeat (first | refine tr_seq_k fun _ _ => ?_ | (refine tr_region ?_; simp only [go_sem, reduceCtorEq, Nat.reduceEqDiff, Nat.reduceLT, Nat.reduceLeDiff, Nat.reduceAdd, Nat.reduceMul, Nat.reduceSub, Nat.reduceBEq, ↓reduceIte, g]) | (refine call_givesW (cI) ?_; (try dsimp only); (try simp only [go_sem, reduceCtorEq, Nat.reduceEqDiff, Nat.reduceLT, Nat.reduceLeDiff, Nat.reduceAdd, Nat.reduceMul, Nat.reduceSub, Nat.reduceBEq, ↓reduceIte, g])) | refine k_of (by assumption) ?_)
    refine tr_cond rfl (fun ht => ?_) (fun hf => ?_)
    · repeat (first | (refine tr_region ?_; simp only [go_sem, reduceCtorEq, Nat.reduceEqDiff, Nat.reduceLT, Nat.reduceLeDiff, Nat.reduceAdd, Nat.reduceMul, Nat.reduceSub, Nat.reduceBEq, ↓reduceIte, g]) | (refine call_givesW (cF) ?_; (try dsimp only); (try simp only [go_sem, reduceCtorEq, Nat.reduceEqDiff, Nat.reduceLT, Nat.reduceLeDiff, Nat.reduceAdd, Nat.reduceMul, Nat.reduceSub, Nat.reduceBEq, ↓reduceIte, g])))
      exact (hQ _ _ [] rfl rfl rfl).1
    · cases hf
  | true =>
    rw [h1, if_pos rfl] at cI
    rw [if_pos rfl]
    refine givesW_of' Tryd.func31 rfl (by kernel_rfl) Tryd.ntmps31 rfl rfl fun Q hQ => ?_
    repeat (first | refine tr_seq_k fun _ _ => ?_ | (refine tr_region ?_; simp only [go_sem, reduceCtorEq, Nat.reduceEqDiff, Nat.reduceLT, Nat.reduceLeDiff, Nat.reduceAdd, Nat.reduceMul, Nat.reduceSub, Nat.reduceBEq, ↓reduceIte, g]) | (refine call_givesW (cI) ?_; (try dsimp only); (try simp only [go_sem, reduceCtorEq, Nat.reduceEqDiff, Nat.reduceLT, Nat.reduceLeDiff, Nat.reduceAdd, Nat.reduceMul, Nat.reduceSub, Nat.reduceBEq, ↓reduceIte, g])) | refine k_of (by assumption) ?_)
    refine tr_cond rfl (fun ht => ?_) (fun hf => ?_)
    · cases ht
    · repeat ((refine tr_skip ?_; try simp only [ex_seq, ex_block]))
      exact (hQ _ _ [] rfl rfl rfl).1
end Go.Proofs.YtaeehadibckcjaaDoor
namespace Go.Proofs.YtaeehadibckcjaaDoor
open Go.RowKit Go.Vs Go.Vs.Ab
set_option maxRecDepth 100000
set_option maxHeartbeats 4000000
theorem num_tail (s : ByteArray) : decide (s ≠ ⟨#[]⟩) = !decide (s = ⟨#[]⟩) := by
  by_cases h : s = ⟨#[]⟩
  · simp [h]
  · simp [h]
theorem may3_does (s : ByteArray) (hz : s.size ≤ 1000000) : Does Tryd.prog 61 [iA 3, sA s] (fun m => (bA (pnum s), m)) := by
  have lsz := lts_len s
  refine does_of' Tryd.func61 rfl (by kernel_rfl) rfl Tryd.ntmps61 rfl rfl fun Q hQ => ?_
  repeat (first | refine tr_seq_k fun _ _ => ?_ | (refine tr_region ?_; simp only [go_sem, reduceCtorEq, Nat.reduceEqDiff, Nat.reduceLT, Nat.reduceLeDiff, Nat.reduceAdd, Nat.reduceMul, Nat.reduceSub, Nat.reduceBEq, ↓reduceIte]) | refine k_of (by assumption) ?_ | refine tr_block ?_)
  refine tr_cond rfl (fun ht => ?_) (fun hf => ?_)
  · cases ht
  repeat (first | refine tr_seq_k fun _ _ => ?_ | (refine tr_region ?_; simp only [go_sem, reduceCtorEq, Nat.reduceEqDiff, Nat.reduceLT, Nat.reduceLeDiff, Nat.reduceAdd, Nat.reduceMul, Nat.reduceSub, Nat.reduceBEq, ↓reduceIte]) | refine k_of (by assumption) ?_)
  refine tr_cond rfl (fun ht => ?_) (fun hf => ?_)
  · cases ht
  repeat (first | refine tr_seq_k fun _ _ => ?_ | (refine tr_region ?_; simp only [go_sem, reduceCtorEq, Nat.reduceEqDiff, Nat.reduceLT, Nat.reduceLeDiff, Nat.reduceAdd, Nat.reduceMul, Nat.reduceSub, Nat.reduceBEq, ↓reduceIte]) | refine k_of (by assumption) ?_)
  refine tr_cond rfl (fun ht => ?_) (fun hf => ?_)
  · cases ht
  repeat (first | refine tr_seq_k fun _ _ => ?_ | (refine tr_region ?_; simp only [go_sem, reduceCtorEq, Nat.reduceEqDiff, Nat.reduceLT, Nat.reduceLeDiff, Nat.reduceAdd, Nat.reduceMul, Nat.reduceSub, Nat.reduceBEq, ↓reduceIte]) | refine k_of (by assumption) ?_ | refine tr_block ?_ | (refine tr_skip ?_; try simp only [ex_seq, ex_block]))
  refine tr_loop_k (σ := Nat) (fun k => [(1, sA s), (5, iA k)]) (fun _ => ⟨[], []⟩) (fun k => k ≤ (lts s).length ∧ ((lts s).take k).all digB = true) (fun k => (lts s).length - k) 0 ⟨Nat.zero_le _, rfl⟩ ⟨rfl, rfl, trivial⟩ rfl ?_
  rintro k ⟨hk, hp⟩ K hK
  by_cases hkl : k < (lts s).length
  · have d1 : decide ((k : Int) < (s.size : Nat)) = true := decide_eq_true (by omega)
    have ix := idx_str s hkl
    have ws := wrap_succ (show k ≤ 1000000000 by omega)
    have hnx := all_next (p := digB) hkl hp
    have hfl := all_fail (p := digB) hkl
    generalize (lts s)[k] = c at *
    have cD := digit_does c
    cases h1 : digB c with
    | true =>
      rw [h1] at cD
      repeat (first | refine tr_seq_k fun _ _ => ?_ | (refine tr_region ?_; simp only [go_sem, reduceCtorEq, Nat.reduceEqDiff, Nat.reduceLT, Nat.reduceLeDiff, Nat.reduceAdd, Nat.reduceMul, Nat.reduceSub, Nat.reduceBEq, ↓reduceIte, d1]) | refine k_of (by assumption) ?_)
      refine tr_cond rfl (fun ht => ?_) (fun hf => ?_)
      · repeat (first | refine tr_seq_k fun _ _ => ?_ | (refine tr_region ?_; simp only [go_sem, reduceCtorEq, Nat.reduceEqDiff, Nat.reduceLT, Nat.reduceLeDiff, Nat.reduceAdd, Nat.reduceMul, Nat.reduceSub, Nat.reduceBEq, ↓reduceIte, ix]) | (refine call_of (cD) ?_ ?_; (first | rfl | simp only [go_sem, reduceCtorEq, Nat.reduceEqDiff, Nat.reduceLT, Nat.reduceLeDiff, Nat.reduceAdd, Nat.reduceMul, Nat.reduceSub, Nat.reduceBEq, ↓reduceIte, ix, shut_col]); simp only [go_sem, reduceCtorEq, Nat.reduceEqDiff, Nat.reduceLT, Nat.reduceLeDiff, Nat.reduceAdd, Nat.reduceMul, Nat.reduceSub, Nat.reduceBEq, ↓reduceIte, ix]) | refine k_of (by assumption) ?_ | refine tr_block ?_ | (refine tr_skip ?_; try simp only [ex_seq, ex_block]))
        refine tr_cond rfl (fun ht => ?_) (fun hf => ?_)
        · cases ht
        · repeat (first | (refine tr_region ?_; simp only [go_sem, reduceCtorEq, Nat.reduceEqDiff, Nat.reduceLT, Nat.reduceLeDiff, Nat.reduceAdd, Nat.reduceMul, Nat.reduceSub, Nat.reduceBEq, ↓reduceIte, ws]) | refine k_of (by assumption) ?_ | (refine tr_skip ?_; try simp only [ex_seq, ex_block]))
          exact hK (k + 1) _ _ ⟨hkl, hnx h1⟩ ⟨⟨rfl, rfl, trivial⟩, Keep.refl _, rfl, rfl, Nat.le_refl _, Nat.le_refl _⟩ (by omega)
      · cases hf
    | false =>
      rw [h1] at cD
      have hr : pnum s = false := by unfold pnum; rw [hfl h1]; rfl
      repeat (first | refine tr_seq_k fun _ _ => ?_ | (refine tr_region ?_; simp only [go_sem, reduceCtorEq, Nat.reduceEqDiff, Nat.reduceLT, Nat.reduceLeDiff, Nat.reduceAdd, Nat.reduceMul, Nat.reduceSub, Nat.reduceBEq, ↓reduceIte, d1]) | refine k_of (by assumption) ?_)
      refine tr_cond rfl (fun ht => ?_) (fun hf => ?_)
      · repeat (first | refine tr_seq_k fun _ _ => ?_ | (refine tr_region ?_; simp only [go_sem, reduceCtorEq, Nat.reduceEqDiff, Nat.reduceLT, Nat.reduceLeDiff, Nat.reduceAdd, Nat.reduceMul, Nat.reduceSub, Nat.reduceBEq, ↓reduceIte, ix]) | (refine call_of (cD) ?_ ?_; (first | rfl | simp only [go_sem, reduceCtorEq, Nat.reduceEqDiff, Nat.reduceLT, Nat.reduceLeDiff, Nat.reduceAdd, Nat.reduceMul, Nat.reduceSub, Nat.reduceBEq, ↓reduceIte, ix, shut_col]); simp only [go_sem, reduceCtorEq, Nat.reduceEqDiff, Nat.reduceLT, Nat.reduceLeDiff, Nat.reduceAdd, Nat.reduceMul, Nat.reduceSub, Nat.reduceBEq, ↓reduceIte, ix]) | refine k_of (by assumption) ?_ | refine tr_block ?_ | (refine tr_skip ?_; try simp only [ex_seq, ex_block]))
        refine tr_cond rfl (fun ht => ?_) (fun hf => ?_)
        · repeat (first | refine tr_seq_k fun _ _ => ?_ | (refine tr_region ?_; simp only [go_sem, reduceCtorEq, Nat.reduceEqDiff, Nat.reduceLT, Nat.reduceLeDiff, Nat.reduceAdd, Nat.reduceMul, Nat.reduceSub, Nat.reduceBEq, ↓reduceIte]) | refine k_of (by assumption) ?_ | (refine tr_ret ?_; try simp only [ex_seq_ret, ex_block_ret]))
          refine (hQ _ _ [bA false] ?_ (fun m => ?_)).2 <;> simp only [go_sem, reduceCtorEq, Nat.reduceEqDiff, Nat.reduceLT, Nat.reduceLeDiff, Nat.reduceAdd, Nat.reduceMul, Nat.reduceSub, Nat.reduceBEq, ↓reduceIte, Tryd.f61, hr]
        · cases hf
      · cases hf
  · have d1 : decide ((k : Int) < (s.size : Nat)) = false := decide_eq_false (by omega)
    obtain rfl : k = (lts s).length := by omega
    rw [List.take_length] at hp
    have hr : pnum s = (!decide (s = ⟨#[]⟩) && (decide ((s.size : Int) ≤ 7) && (decide ((s.size : Int) = 1) || headB (fun c => !decide ((c.toNat : Int) = 48)) s))) := by
      unfold pnum
      rw [hp, num_tail]
      rfl
    cases e1 : decide (s = ⟨#[]⟩) with
    | true =>
      rw [e1] at hr
      have hr : pnum s = false := hr
      repeat (first | refine tr_seq_k fun _ _ => ?_ | (refine tr_region ?_; simp only [go_sem, reduceCtorEq, Nat.reduceEqDiff, Nat.reduceLT, Nat.reduceLeDiff, Nat.reduceAdd, Nat.reduceMul, Nat.reduceSub, Nat.reduceBEq, ↓reduceIte, d1]) | refine k_of (by assumption) ?_)
      refine tr_cond rfl (fun ht => ?_) (fun hf => ?_)
      · cases ht
      · repeat (first | refine tr_seq_k fun _ _ => ?_ | (refine tr_region ?_; simp only [go_sem, reduceCtorEq, Nat.reduceEqDiff, Nat.reduceLT, Nat.reduceLeDiff, Nat.reduceAdd, Nat.reduceMul, Nat.reduceSub, Nat.reduceBEq, ↓reduceIte, e1]) | refine k_of (by assumption) ?_ | (refine tr_exit ?_; try simp only [ex_seq_exit, ex_block_exit, Nat.reduceEqDiff, if_true, if_false, ex_seq, ex_block, reduceCtorEq, ↓reduceIte]) | (refine tr_ret ?_; try simp only [ex_seq_ret, ex_block_ret]))
        refine (hQ _ _ [bA false] ?_ (fun m => ?_)).2 <;> simp only [go_sem, reduceCtorEq, Nat.reduceEqDiff, Nat.reduceLT, Nat.reduceLeDiff, Nat.reduceAdd, Nat.reduceMul, Nat.reduceSub, Nat.reduceBEq, ↓reduceIte, Tryd.f61, hr]
    | false =>
      rw [e1] at hr
      cases e2 : decide ((s.size : Int) ≤ 7) with
      | false =>
        rw [e2] at hr
        have hr : pnum s = false := hr
        repeat (first | refine tr_seq_k fun _ _ => ?_ | (refine tr_region ?_; simp only [go_sem, reduceCtorEq, Nat.reduceEqDiff, Nat.reduceLT, Nat.reduceLeDiff, Nat.reduceAdd, Nat.reduceMul, Nat.reduceSub, Nat.reduceBEq, ↓reduceIte, d1]) | refine k_of (by assumption) ?_)
        refine tr_cond rfl (fun ht => ?_) (fun hf => ?_)
        · cases ht
        · repeat (first | refine tr_seq_k fun _ _ => ?_ | (refine tr_region ?_; simp only [go_sem, reduceCtorEq, Nat.reduceEqDiff, Nat.reduceLT, Nat.reduceLeDiff, Nat.reduceAdd, Nat.reduceMul, Nat.reduceSub, Nat.reduceBEq, ↓reduceIte, e1, e2]) | refine k_of (by assumption) ?_ | (refine tr_exit ?_; try simp only [ex_seq_exit, ex_block_exit, Nat.reduceEqDiff, if_true, if_false, ex_seq, ex_block, reduceCtorEq, ↓reduceIte]) | (refine tr_ret ?_; try simp only [ex_seq_ret, ex_block_ret]))
          refine (hQ _ _ [bA false] ?_ (fun m => ?_)).2 <;> simp only [go_sem, reduceCtorEq, Nat.reduceEqDiff, Nat.reduceLT, Nat.reduceLeDiff, Nat.reduceAdd, Nat.reduceMul, Nat.reduceSub, Nat.reduceBEq, ↓reduceIte, Tryd.f61, hr]
      | true =>
        rw [e2] at hr
        cases e3 : decide ((s.size : Int) = 1) with
        | true =>
          rw [e3] at hr
          have hr : pnum s = true := hr
          repeat (first | refine tr_seq_k fun _ _ => ?_ | (refine tr_region ?_; simp only [go_sem, reduceCtorEq, Nat.reduceEqDiff, Nat.reduceLT, Nat.reduceLeDiff, Nat.reduceAdd, Nat.reduceMul, Nat.reduceSub, Nat.reduceBEq, ↓reduceIte, d1]) | refine k_of (by assumption) ?_)
          refine tr_cond rfl (fun ht => ?_) (fun hf => ?_)
          · cases ht
          · repeat (first | refine tr_seq_k fun _ _ => ?_ | (refine tr_region ?_; simp only [go_sem, reduceCtorEq, Nat.reduceEqDiff, Nat.reduceLT, Nat.reduceLeDiff, Nat.reduceAdd, Nat.reduceMul, Nat.reduceSub, Nat.reduceBEq, ↓reduceIte, e1, e2, e3]) | refine k_of (by assumption) ?_ | (refine tr_exit ?_; try simp only [ex_seq_exit, ex_block_exit, Nat.reduceEqDiff, if_true, if_false, ex_seq, ex_block, reduceCtorEq, ↓reduceIte]) | (refine tr_ret ?_; try simp only [ex_seq_ret, ex_block_ret]))
            refine (hQ _ _ [bA true] ?_ (fun m => ?_)).2 <;> simp only [go_sem, reduceCtorEq, Nat.reduceEqDiff, Nat.reduceLT, Nat.reduceLeDiff, Nat.reduceAdd, Nat.reduceMul, Nat.reduceSub, Nat.reduceBEq, ↓reduceIte, Tryd.f61, hr]
        | false =>
          rw [e3] at hr
          have hpos : 0 < s.size := by
            rcases Nat.eq_zero_or_pos s.size with h | h
            · exact absurd (size_zero h) (of_decide_eq_false e1)
            · exact h
          have ix := idx_str0 s (by omega)
          have hh := headB_get (p := fun c => !decide ((c.toNat : Int) = 48)) hpos
          rw [hh] at hr
          generalize (lts s)[0] = c at *
          cases e4 : decide ((c.toNat : Int) = 48) with
          | true =>
            rw [e4] at hr
            have hr : pnum s = false := hr
            repeat (first | refine tr_seq_k fun _ _ => ?_ | (refine tr_region ?_; simp only [go_sem, reduceCtorEq, Nat.reduceEqDiff, Nat.reduceLT, Nat.reduceLeDiff, Nat.reduceAdd, Nat.reduceMul, Nat.reduceSub, Nat.reduceBEq, ↓reduceIte, d1]) | refine k_of (by assumption) ?_)
            refine tr_cond rfl (fun ht => ?_) (fun hf => ?_)
            · cases ht
            · repeat (first | refine tr_seq_k fun _ _ => ?_ | (refine tr_region ?_; simp only [go_sem, reduceCtorEq, Nat.reduceEqDiff, Nat.reduceLT, Nat.reduceLeDiff, Nat.reduceAdd, Nat.reduceMul, Nat.reduceSub, Nat.reduceBEq, ↓reduceIte, e1, e2, e3, ix, e4]) | refine k_of (by assumption) ?_ | (refine tr_exit ?_; try simp only [ex_seq_exit, ex_block_exit, Nat.reduceEqDiff, if_true, if_false, ex_seq, ex_block, reduceCtorEq, ↓reduceIte]) | (refine tr_ret ?_; try simp only [ex_seq_ret, ex_block_ret]))
              refine (hQ _ _ [bA false] ?_ (fun m => ?_)).2 <;> simp only [go_sem, reduceCtorEq, Nat.reduceEqDiff, Nat.reduceLT, Nat.reduceLeDiff, Nat.reduceAdd, Nat.reduceMul, Nat.reduceSub, Nat.reduceBEq, ↓reduceIte, Tryd.f61, hr]
          | false =>
            rw [e4] at hr
            have hr : pnum s = true := hr
            repeat (first | refine tr_seq_k fun _ _ => ?_ | (refine tr_region ?_; simp only [go_sem, reduceCtorEq, Nat.reduceEqDiff, Nat.reduceLT, Nat.reduceLeDiff, Nat.reduceAdd, Nat.reduceMul, Nat.reduceSub, Nat.reduceBEq, ↓reduceIte, d1]) | refine k_of (by assumption) ?_)
            refine tr_cond rfl (fun ht => ?_) (fun hf => ?_)
            · cases ht
            · repeat (first | refine tr_seq_k fun _ _ => ?_ | (refine tr_region ?_; simp only [go_sem, reduceCtorEq, Nat.reduceEqDiff, Nat.reduceLT, Nat.reduceLeDiff, Nat.reduceAdd, Nat.reduceMul, Nat.reduceSub, Nat.reduceBEq, ↓reduceIte, e1, e2, e3, ix, e4]) | refine k_of (by assumption) ?_ | (refine tr_exit ?_; try simp only [ex_seq_exit, ex_block_exit, Nat.reduceEqDiff, if_true, if_false, ex_seq, ex_block, reduceCtorEq, ↓reduceIte]) | (refine tr_ret ?_; try simp only [ex_seq_ret, ex_block_ret]))
              refine (hQ _ _ [bA true] ?_ (fun m => ?_)).2 <;> simp only [go_sem, reduceCtorEq, Nat.reduceEqDiff, Nat.reduceLT, Nat.reduceLeDiff, Nat.reduceAdd, Nat.reduceMul, Nat.reduceSub, Nat.reduceBEq, ↓reduceIte, Tryd.f61, hr]
theorem may0_does (s : ByteArray) : Does Tryd.prog 61 [iA 0, sA s] (fun m => (bA (pprincipal s), m)) := by
  have c1 := principal_does s
  refine does_of' Tryd.func61 rfl (by kernel_rfl) rfl Tryd.ntmps61 rfl rfl fun Q hQ => ?_
  repeat (first | refine tr_seq_k fun _ _ => ?_ | (refine tr_region ?_; simp only [go_sem, reduceCtorEq, Nat.reduceEqDiff, Nat.reduceLT, Nat.reduceLeDiff, Nat.reduceAdd, Nat.reduceMul, Nat.reduceSub, Nat.reduceBEq, ↓reduceIte]) | refine k_of (by assumption) ?_ | refine tr_block ?_)
  refine tr_cond rfl (fun ht => ?_) (fun hf => ?_)
  · repeat (first | refine tr_seq_k fun _ _ => ?_ | (refine tr_region ?_; simp only [go_sem, reduceCtorEq, Nat.reduceEqDiff, Nat.reduceLT, Nat.reduceLeDiff, Nat.reduceAdd, Nat.reduceMul, Nat.reduceSub, Nat.reduceBEq, ↓reduceIte]) | (refine call_of (c1) ?_ ?_; (first | rfl | simp only [go_sem, reduceCtorEq, Nat.reduceEqDiff, Nat.reduceLT, Nat.reduceLeDiff, Nat.reduceAdd, Nat.reduceMul, Nat.reduceSub, Nat.reduceBEq, ↓reduceIte, shut_col]); simp only [go_sem, reduceCtorEq, Nat.reduceEqDiff, Nat.reduceLT, Nat.reduceLeDiff, Nat.reduceAdd, Nat.reduceMul, Nat.reduceSub, Nat.reduceBEq, ↓reduceIte]) | refine k_of (by assumption) ?_ | (refine tr_ret ?_; try simp only [ex_seq_ret, ex_block_ret]))
    refine (hQ _ _ [bA (pprincipal s)] ?_ (fun m => ?_)).2 <;> simp only [go_sem, reduceCtorEq, Nat.reduceEqDiff, Nat.reduceLT, Nat.reduceLeDiff, Nat.reduceAdd, Nat.reduceMul, Nat.reduceSub, Nat.reduceBEq, ↓reduceIte, Tryd.f61,]
  · cases hf
theorem may1_does (s : ByteArray) : Does Tryd.prog 61 [iA 1, sA s] (fun m => (bA (pprincipal s), m)) := by
  have c1 := predicate_does s
  refine does_of' Tryd.func61 rfl (by kernel_rfl) rfl Tryd.ntmps61 rfl rfl fun Q hQ => ?_
  repeat (first | refine tr_seq_k fun _ _ => ?_ | (refine tr_region ?_; simp only [go_sem, reduceCtorEq, Nat.reduceEqDiff, Nat.reduceLT, Nat.reduceLeDiff, Nat.reduceAdd, Nat.reduceMul, Nat.reduceSub, Nat.reduceBEq, ↓reduceIte]) | refine k_of (by assumption) ?_ | refine tr_block ?_)
  refine tr_cond rfl (fun ht => ?_) (fun hf => ?_)
  · cases ht
  repeat (first | refine tr_seq_k fun _ _ => ?_ | (refine tr_region ?_; simp only [go_sem, reduceCtorEq, Nat.reduceEqDiff, Nat.reduceLT, Nat.reduceLeDiff, Nat.reduceAdd, Nat.reduceMul, Nat.reduceSub, Nat.reduceBEq, ↓reduceIte]) | refine k_of (by assumption) ?_)
  refine tr_cond rfl (fun ht => ?_) (fun hf => ?_)
  · repeat (first | refine tr_seq_k fun _ _ => ?_ | (refine tr_region ?_; simp only [go_sem, reduceCtorEq, Nat.reduceEqDiff, Nat.reduceLT, Nat.reduceLeDiff, Nat.reduceAdd, Nat.reduceMul, Nat.reduceSub, Nat.reduceBEq, ↓reduceIte]) | (refine call_of (c1) ?_ ?_; (first | rfl | simp only [go_sem, reduceCtorEq, Nat.reduceEqDiff, Nat.reduceLT, Nat.reduceLeDiff, Nat.reduceAdd, Nat.reduceMul, Nat.reduceSub, Nat.reduceBEq, ↓reduceIte, shut_col]); simp only [go_sem, reduceCtorEq, Nat.reduceEqDiff, Nat.reduceLT, Nat.reduceLeDiff, Nat.reduceAdd, Nat.reduceMul, Nat.reduceSub, Nat.reduceBEq, ↓reduceIte]) | refine k_of (by assumption) ?_ | (refine tr_ret ?_; try simp only [ex_seq_ret, ex_block_ret]))
    refine (hQ _ _ [bA (pprincipal s)] ?_ (fun m => ?_)).2 <;> simp only [go_sem, reduceCtorEq, Nat.reduceEqDiff, Nat.reduceLT, Nat.reduceLeDiff, Nat.reduceAdd, Nat.reduceMul, Nat.reduceSub, Nat.reduceBEq, ↓reduceIte, Tryd.f61,]
  · cases hf
theorem may2_does (s : ByteArray) : Does Tryd.prog 61 [iA 2, sA s] (fun m => (bA (pconstant s || pvariable s), m)) := by
  have c1 := constant_does s
  have c2 := variable_does s
  cases h1 : pconstant s with
  | true =>
    rw [h1] at c1
    refine does_of' Tryd.func61 rfl (by kernel_rfl) rfl Tryd.ntmps61 rfl rfl fun Q hQ => ?_
    repeat (first | refine tr_seq_k fun _ _ => ?_ | (refine tr_region ?_; simp only [go_sem, reduceCtorEq, Nat.reduceEqDiff, Nat.reduceLT, Nat.reduceLeDiff, Nat.reduceAdd, Nat.reduceMul, Nat.reduceSub, Nat.reduceBEq, ↓reduceIte]) | refine k_of (by assumption) ?_ | refine tr_block ?_)
    refine tr_cond rfl (fun ht => ?_) (fun hf => ?_)
    · cases ht
    repeat (first | refine tr_seq_k fun _ _ => ?_ | (refine tr_region ?_; simp only [go_sem, reduceCtorEq, Nat.reduceEqDiff, Nat.reduceLT, Nat.reduceLeDiff, Nat.reduceAdd, Nat.reduceMul, Nat.reduceSub, Nat.reduceBEq, ↓reduceIte]) | refine k_of (by assumption) ?_)
    refine tr_cond rfl (fun ht => ?_) (fun hf => ?_)
    · cases ht
    repeat (first | refine tr_seq_k fun _ _ => ?_ | (refine tr_region ?_; simp only [go_sem, reduceCtorEq, Nat.reduceEqDiff, Nat.reduceLT, Nat.reduceLeDiff, Nat.reduceAdd, Nat.reduceMul, Nat.reduceSub, Nat.reduceBEq, ↓reduceIte]) | refine k_of (by assumption) ?_)
    refine tr_cond rfl (fun ht => ?_) (fun hf => ?_)
    · repeat (first | refine tr_seq_k fun _ _ => ?_ | (refine tr_region ?_; simp only [go_sem, reduceCtorEq, Nat.reduceEqDiff, Nat.reduceLT, Nat.reduceLeDiff, Nat.reduceAdd, Nat.reduceMul, Nat.reduceSub, Nat.reduceBEq, ↓reduceIte]) | (refine call_of (c1) ?_ ?_; (first | rfl | simp only [go_sem, reduceCtorEq, Nat.reduceEqDiff, Nat.reduceLT, Nat.reduceLeDiff, Nat.reduceAdd, Nat.reduceMul, Nat.reduceSub, Nat.reduceBEq, ↓reduceIte, shut_col]); simp only [go_sem, reduceCtorEq, Nat.reduceEqDiff, Nat.reduceLT, Nat.reduceLeDiff, Nat.reduceAdd, Nat.reduceMul, Nat.reduceSub, Nat.reduceBEq, ↓reduceIte]) | refine k_of (by assumption) ?_ | (refine tr_ret ?_; try simp only [ex_seq_ret, ex_block_ret]))
      refine (hQ _ _ [bA true] ?_ (fun m => rfl)).2 <;> simp only [go_sem, reduceCtorEq, Nat.reduceEqDiff, Nat.reduceLT, Nat.reduceLeDiff, Nat.reduceAdd, Nat.reduceMul, Nat.reduceSub, Nat.reduceBEq, ↓reduceIte, Tryd.f61]
    · cases hf
  | false =>
    rw [h1] at c1
    refine does_of' Tryd.func61 rfl (by kernel_rfl) rfl Tryd.ntmps61 rfl rfl fun Q hQ => ?_
    repeat (first | refine tr_seq_k fun _ _ => ?_ | (refine tr_region ?_; simp only [go_sem, reduceCtorEq, Nat.reduceEqDiff, Nat.reduceLT, Nat.reduceLeDiff, Nat.reduceAdd, Nat.reduceMul, Nat.reduceSub, Nat.reduceBEq, ↓reduceIte]) | refine k_of (by assumption) ?_ | refine tr_block ?_)
    refine tr_cond rfl (fun ht => ?_) (fun hf => ?_)
    · cases ht
    repeat (first | refine tr_seq_k fun _ _ => ?_ | (refine tr_region ?_; simp only [go_sem, reduceCtorEq, Nat.reduceEqDiff, Nat.reduceLT, Nat.reduceLeDiff, Nat.reduceAdd, Nat.reduceMul, Nat.reduceSub, Nat.reduceBEq, ↓reduceIte]) | refine k_of (by assumption) ?_)
    refine tr_cond rfl (fun ht => ?_) (fun hf => ?_)
    · cases ht
    repeat (first | refine tr_seq_k fun _ _ => ?_ | (refine tr_region ?_; simp only [go_sem, reduceCtorEq, Nat.reduceEqDiff, Nat.reduceLT, Nat.reduceLeDiff, Nat.reduceAdd, Nat.reduceMul, Nat.reduceSub, Nat.reduceBEq, ↓reduceIte]) | refine k_of (by assumption) ?_)
    refine tr_cond rfl (fun ht => ?_) (fun hf => ?_)
    · repeat (first | refine tr_seq_k fun _ _ => ?_ | (refine tr_region ?_; simp only [go_sem, reduceCtorEq, Nat.reduceEqDiff, Nat.reduceLT, Nat.reduceLeDiff, Nat.reduceAdd, Nat.reduceMul, Nat.reduceSub, Nat.reduceBEq, ↓reduceIte]) | (refine call_of (c1) ?_ ?_; (first | rfl | simp only [go_sem, reduceCtorEq, Nat.reduceEqDiff, Nat.reduceLT, Nat.reduceLeDiff, Nat.reduceAdd, Nat.reduceMul, Nat.reduceSub, Nat.reduceBEq, ↓reduceIte, shut_col]); simp only [go_sem, reduceCtorEq, Nat.reduceEqDiff, Nat.reduceLT, Nat.reduceLeDiff, Nat.reduceAdd, Nat.reduceMul, Nat.reduceSub, Nat.reduceBEq, ↓reduceIte]) | (refine call_of (c2) ?_ ?_; (first | rfl | simp only [go_sem, reduceCtorEq, Nat.reduceEqDiff, Nat.reduceLT, Nat.reduceLeDiff, Nat.reduceAdd, Nat.reduceMul, Nat.reduceSub, Nat.reduceBEq, ↓reduceIte, shut_col]); simp only [go_sem, reduceCtorEq, Nat.reduceEqDiff, Nat.reduceLT, Nat.reduceLeDiff, Nat.reduceAdd, Nat.reduceMul, Nat.reduceSub, Nat.reduceBEq, ↓reduceIte]) | refine k_of (by assumption) ?_ | (refine tr_ret ?_; try simp only [ex_seq_ret, ex_block_ret]))
      refine (hQ _ _ [bA (pvariable s)] ?_ (fun m => rfl)).2 <;> simp only [go_sem, reduceCtorEq, Nat.reduceEqDiff, Nat.reduceLT, Nat.reduceLeDiff, Nat.reduceAdd, Nat.reduceMul, Nat.reduceSub, Nat.reduceBEq, ↓reduceIte, Tryd.f61]
    · cases hf
theorem may_does (sort : Int) (hs : sort = 0 ∨ sort = 1 ∨ sort = 2 ∨ sort = 3) (s : ByteArray) (hz : s.size ≤ 1000000) : Does Tryd.prog 61 [iA sort, sA s] (fun m => (bA (mayT sort s), m)) := by
  rcases hs with rfl | rfl | rfl | rfl
  · exact may0_does s
  · exact may1_does s
  · exact may2_does s
  · exact may3_does s hz
variable {A : List Blk} {hw : List Hw} {b : Nat} {ex : Bool} {L : List Tk} {n : Int}
structure TkOk (L : List Tk) : Prop where
  len : L.length ≤ 1000000
  text : ∀ t ∈ L, t.text.size ≤ 1000000
theorem next_gives (hb : b < A.length) (hL : TkOk L) (r : Rs) (sort : Int) (hs : sort = 0 ∨ sort = 1 ∨ sort = 2 ∨ sort = 3) : GivesW Tryd.prog 30 [.ptr b 0, iA sort] ⟨A.set b (rdB ex L n r), hw⟩ (sA (nextS L r sort)) ⟨A.set b (rdB ex L n (nextR L n r sort)), hw⟩ := by
  have g := fun x => s_get (A := A) hb x
  have cF := fail_gives (hw := hw) (ex := ex) (L := L) (n := n) hb r 3 r.i
  unfold nextS nextR
  cases d1 : decide (r.e = 0) with
  | false =>
    have hr : nextOk L r sort = false := by unfold nextOk; rw [d1]; rfl
    rw [hr, if_neg Bool.false_ne_true, if_neg Bool.false_ne_true]
    refine givesW_of' Tryd.func30 rfl (by kernel_rfl) Tryd.ntmps30 rfl rfl fun Q hQ => ?_
    repeat (first | refine tr_seq_k fun _ _ => ?_ | (refine tr_region ?_; simp only [go_sem, reduceCtorEq, Nat.reduceEqDiff, Nat.reduceLT, Nat.reduceLeDiff, Nat.reduceAdd, Nat.reduceMul, Nat.reduceSub, Nat.reduceBEq, ↓reduceIte, g, d1]) | (refine tr_draw (id := 1) follows 10000 [30] [0, 1, 2, 3, 4, 5, 6, 7, 8, 9, 10, 11, 12, 13, 14, 15, 16, 17, 18, 19, 20, 21, 22, 23, 24, 25, 26, 27, 28, 29, 30, 31] (by kernel_rfl) ?_; simp only [go_sem, reduceCtorEq, Nat.reduceEqDiff, Nat.reduceLT, Nat.reduceLeDiff, Nat.reduceAdd, Nat.reduceMul, Nat.reduceSub, Nat.reduceBEq, ↓reduceIte, g, d1]) | refine k_of (by assumption) ?_)
    refine tr_cond rfl (fun ht => ?_) (fun hf => ?_)
    · cases ht
    · repeat (first | refine tr_seq_k fun _ _ => ?_ | (refine tr_region ?_; simp only [go_sem, reduceCtorEq, Nat.reduceEqDiff, Nat.reduceLT, Nat.reduceLeDiff, Nat.reduceAdd, Nat.reduceMul, Nat.reduceSub, Nat.reduceBEq, ↓reduceIte, g]) | (refine call_givesW (cF) ?_; (try dsimp only); (try simp only [go_sem, reduceCtorEq, Nat.reduceEqDiff, Nat.reduceLT, Nat.reduceLeDiff, Nat.reduceAdd, Nat.reduceMul, Nat.reduceSub, Nat.reduceBEq, ↓reduceIte, g])) | refine k_of (by assumption) ?_ | (refine tr_skip ?_; try simp only [ex_seq, ex_block]) | (refine tr_ret ?_; try simp only [ex_seq_ret, ex_block_ret]))
      refine (hQ _ _ [sA ⟨#[]⟩] ?_ rfl rfl).2 <;> simp only [go_sem, reduceCtorEq, Nat.reduceEqDiff, Nat.reduceLT, Nat.reduceLeDiff, Nat.reduceAdd, Nat.reduceMul, Nat.reduceSub, Nat.reduceBEq, ↓reduceIte, Tryd.f30]
  | true =>
    by_cases hj : r.i < L.length
    · have hr : nextOk L r sort = mayT sort L[r.i].text := by unfold nextOk; rw [d1, List.getElem?_eq_getElem hj]; rfl
      have ix := idxTk (ex := ex) hj
      have d2 : decide ((r.i : Int) < (L.length : Nat)) = true := decide_eq_true (by omega)
      have hz := hL.text L[r.i] (List.getElem_mem hj)
      have hlen := hL.len
      have ws := wrap_succ (show r.i ≤ 1000000000 by omega)
      have wp : IntKind.i64.wrap (((r.i + 1 : Nat) : Int) - 1) = (r.i : Int) := by rw [wrap_in (by omega)]; omega
      rw [hr, List.getElem?_eq_getElem hj]
      generalize L[r.i] = t at *
      have cM := may_does sort hs t.text hz
      cases h1 : mayT sort t.text with
      | true =>
        rw [h1] at cM
        rw [if_pos rfl, if_pos rfl]
        refine givesW_of' Tryd.func30 rfl (by kernel_rfl) Tryd.ntmps30 rfl rfl fun Q hQ => ?_
        repeat (first | refine tr_seq_k fun _ _ => ?_ | (refine tr_region ?_; simp only [go_sem, reduceCtorEq, Nat.reduceEqDiff, Nat.reduceLT, Nat.reduceLeDiff, Nat.reduceAdd, Nat.reduceMul, Nat.reduceSub, Nat.reduceBEq, ↓reduceIte, g, d1, d2, ix]) | (refine tr_draw (id := 1) follows 10000 [30] [0, 1, 2, 3, 4, 5, 6, 7, 8, 9, 10, 11, 12, 13, 14, 15, 16, 17, 18, 19, 20, 21, 22, 23, 24, 25, 26, 27, 28, 29, 30, 31] (by kernel_rfl) ?_; simp only [go_sem, reduceCtorEq, Nat.reduceEqDiff, Nat.reduceLT, Nat.reduceLeDiff, Nat.reduceAdd, Nat.reduceMul, Nat.reduceSub, Nat.reduceBEq, ↓reduceIte, g, d1, d2, ix]) | (refine call_of (cM) ?_ ?_; (first | rfl | simp only [go_sem, reduceCtorEq, Nat.reduceEqDiff, Nat.reduceLT, Nat.reduceLeDiff, Nat.reduceAdd, Nat.reduceMul, Nat.reduceSub, Nat.reduceBEq, ↓reduceIte, g, d1, d2, ix, shut_col]); simp only [go_sem, reduceCtorEq, Nat.reduceEqDiff, Nat.reduceLT, Nat.reduceLeDiff, Nat.reduceAdd, Nat.reduceMul, Nat.reduceSub, Nat.reduceBEq, ↓reduceIte, g, d1, d2, ix]) | refine k_of (by assumption) ?_)
        refine tr_cond rfl (fun ht => ?_) (fun hf => ?_)
        · repeat (first | refine tr_seq_k fun _ _ => ?_ | (refine tr_region ?_; simp only [go_sem, reduceCtorEq, Nat.reduceEqDiff, Nat.reduceLT, Nat.reduceLeDiff, Nat.reduceAdd, Nat.reduceMul, Nat.reduceSub, Nat.reduceBEq, ↓reduceIte, g, s_set, ws, wp, ix]) | (refine tr_drawC (id := 3) follows 10000 (by kernel_rfl) ?_; simp only [go_sem, reduceCtorEq, Nat.reduceEqDiff, Nat.reduceLT, Nat.reduceLeDiff, Nat.reduceAdd, Nat.reduceMul, Nat.reduceSub, Nat.reduceBEq, ↓reduceIte, g, s_set, ws, wp, ix]) | refine k_of (by assumption) ?_ | (refine tr_ret ?_; try simp only [ex_seq_ret, ex_block_ret]))
          refine (hQ _ _ [sA t.text] ?_ rfl rfl).2 <;> simp only [go_sem, reduceCtorEq, Nat.reduceEqDiff, Nat.reduceLT, Nat.reduceLeDiff, Nat.reduceAdd, Nat.reduceMul, Nat.reduceSub, Nat.reduceBEq, ↓reduceIte, Tryd.f30]
        · cases hf
      | false =>
        rw [h1] at cM
        rw [if_neg Bool.false_ne_true, if_neg Bool.false_ne_true]
        refine givesW_of' Tryd.func30 rfl (by kernel_rfl) Tryd.ntmps30 rfl rfl fun Q hQ => ?_
        repeat (first | refine tr_seq_k fun _ _ => ?_ | (refine tr_region ?_; simp only [go_sem, reduceCtorEq, Nat.reduceEqDiff, Nat.reduceLT, Nat.reduceLeDiff, Nat.reduceAdd, Nat.reduceMul, Nat.reduceSub, Nat.reduceBEq, ↓reduceIte, g, d1, d2, ix]) | (refine tr_draw (id := 1) follows 10000 [30] [0, 1, 2, 3, 4, 5, 6, 7, 8, 9, 10, 11, 12, 13, 14, 15, 16, 17, 18, 19, 20, 21, 22, 23, 24, 25, 26, 27, 28, 29, 30, 31] (by kernel_rfl) ?_; simp only [go_sem, reduceCtorEq, Nat.reduceEqDiff, Nat.reduceLT, Nat.reduceLeDiff, Nat.reduceAdd, Nat.reduceMul, Nat.reduceSub, Nat.reduceBEq, ↓reduceIte, g, d1, d2, ix]) | (refine call_of (cM) ?_ ?_; (first | rfl | simp only [go_sem, reduceCtorEq, Nat.reduceEqDiff, Nat.reduceLT, Nat.reduceLeDiff, Nat.reduceAdd, Nat.reduceMul, Nat.reduceSub, Nat.reduceBEq, ↓reduceIte, g, d1, d2, ix, shut_col]); simp only [go_sem, reduceCtorEq, Nat.reduceEqDiff, Nat.reduceLT, Nat.reduceLeDiff, Nat.reduceAdd, Nat.reduceMul, Nat.reduceSub, Nat.reduceBEq, ↓reduceIte, g, d1, d2, ix]) | refine k_of (by assumption) ?_)
        refine tr_cond rfl (fun ht => ?_) (fun hf => ?_)
        · cases ht
        · repeat (first | refine tr_seq_k fun _ _ => ?_ | (refine tr_region ?_; simp only [go_sem, reduceCtorEq, Nat.reduceEqDiff, Nat.reduceLT, Nat.reduceLeDiff, Nat.reduceAdd, Nat.reduceMul, Nat.reduceSub, Nat.reduceBEq, ↓reduceIte, g]) | (refine call_givesW (cF) ?_; (try dsimp only); (try simp only [go_sem, reduceCtorEq, Nat.reduceEqDiff, Nat.reduceLT, Nat.reduceLeDiff, Nat.reduceAdd, Nat.reduceMul, Nat.reduceSub, Nat.reduceBEq, ↓reduceIte, g])) | refine k_of (by assumption) ?_ | (refine tr_skip ?_; try simp only [ex_seq, ex_block]) | (refine tr_ret ?_; try simp only [ex_seq_ret, ex_block_ret]))
          refine (hQ _ _ [sA ⟨#[]⟩] ?_ rfl rfl).2 <;> simp only [go_sem, reduceCtorEq, Nat.reduceEqDiff, Nat.reduceLT, Nat.reduceLeDiff, Nat.reduceAdd, Nat.reduceMul, Nat.reduceSub, Nat.reduceBEq, ↓reduceIte, Tryd.f30]
    · have hr : nextOk L r sort = false := by unfold nextOk; rw [d1, List.getElem?_eq_none (by omega)]; rfl
      have d2 : decide ((r.i : Int) < (L.length : Nat)) = false := decide_eq_false (by omega)
      rw [hr, if_neg Bool.false_ne_true, if_neg Bool.false_ne_true]
      refine givesW_of' Tryd.func30 rfl (by kernel_rfl) Tryd.ntmps30 rfl rfl fun Q hQ => ?_
      repeat (first | refine tr_seq_k fun _ _ => ?_ | (refine tr_region ?_; simp only [go_sem, reduceCtorEq, Nat.reduceEqDiff, Nat.reduceLT, Nat.reduceLeDiff, Nat.reduceAdd, Nat.reduceMul, Nat.reduceSub, Nat.reduceBEq, ↓reduceIte, g, d1, d2]) | (refine tr_draw (id := 1) follows 10000 [30] [0, 1, 2, 3, 4, 5, 6, 7, 8, 9, 10, 11, 12, 13, 14, 15, 16, 17, 18, 19, 20, 21, 22, 23, 24, 25, 26, 27, 28, 29, 30, 31] (by kernel_rfl) ?_; simp only [go_sem, reduceCtorEq, Nat.reduceEqDiff, Nat.reduceLT, Nat.reduceLeDiff, Nat.reduceAdd, Nat.reduceMul, Nat.reduceSub, Nat.reduceBEq, ↓reduceIte, g, d1, d2]) | refine k_of (by assumption) ?_)
      refine tr_cond rfl (fun ht => ?_) (fun hf => ?_)
      · cases ht
      · repeat (first | refine tr_seq_k fun _ _ => ?_ | (refine tr_region ?_; simp only [go_sem, reduceCtorEq, Nat.reduceEqDiff, Nat.reduceLT, Nat.reduceLeDiff, Nat.reduceAdd, Nat.reduceMul, Nat.reduceSub, Nat.reduceBEq, ↓reduceIte, g]) | (refine call_givesW (cF) ?_; (try dsimp only); (try simp only [go_sem, reduceCtorEq, Nat.reduceEqDiff, Nat.reduceLT, Nat.reduceLeDiff, Nat.reduceAdd, Nat.reduceMul, Nat.reduceSub, Nat.reduceBEq, ↓reduceIte, g])) | refine k_of (by assumption) ?_ | (refine tr_skip ?_; try simp only [ex_seq, ex_block]) | (refine tr_ret ?_; try simp only [ex_seq_ret, ex_block_ret]))
        refine (hQ _ _ [sA ⟨#[]⟩] ?_ rfl rfl).2 <;> simp only [go_sem, reduceCtorEq, Nat.reduceEqDiff, Nat.reduceLT, Nat.reduceLeDiff, Nat.reduceAdd, Nat.reduceMul, Nat.reduceSub, Nat.reduceBEq, ↓reduceIte, Tryd.f30]
theorem once_gives (hb : b < A.length) (hL : TkOk L) (r : Rs) (was : Bool) (hi : 1 ≤ r.i) (hi2 : r.i ≤ L.length) : GivesW Tryd.prog 34 [.ptr b 0, bA was] ⟨A.set b (rdB ex L n r), hw⟩ (.tup []) ⟨A.set b (rdB ex L n (onceR L n r was)), hw⟩ := by
  have g := fun x => s_get (A := A) hb x
  have hlen := hL.len
  have wp : IntKind.i64.wrap ((r.i : Int) - 1) = ((r.i - 1 : Nat) : Int) := by rw [wrap_in (by omega)]; omega
  have cF := fail_gives (hw := hw) (ex := ex) (L := L) (n := n) hb r 5 (r.i - 1)
  cases was with
  | true =>
    refine givesW_of' Tryd.func34 rfl (by kernel_rfl) Tryd.ntmps34 rfl rfl fun Q hQ => ?_
    repeat (first | refine tr_seq_k fun _ _ => ?_ | (refine tr_region ?_; simp only [go_sem, reduceCtorEq, Nat.reduceEqDiff, Nat.reduceLT, Nat.reduceLeDiff, Nat.reduceAdd, Nat.reduceMul, Nat.reduceSub, Nat.reduceBEq, ↓reduceIte]) | refine k_of (by assumption) ?_)
    refine tr_cond rfl (fun ht => ?_) (fun hf => ?_)
    · repeat (first | (refine tr_region ?_; simp only [go_sem, reduceCtorEq, Nat.reduceEqDiff, Nat.reduceLT, Nat.reduceLeDiff, Nat.reduceAdd, Nat.reduceMul, Nat.reduceSub, Nat.reduceBEq, ↓reduceIte, g, wp]) | (refine call_givesW (cF) ?_; (try dsimp only); (try simp only [go_sem, reduceCtorEq, Nat.reduceEqDiff, Nat.reduceLT, Nat.reduceLeDiff, Nat.reduceAdd, Nat.reduceMul, Nat.reduceSub, Nat.reduceBEq, ↓reduceIte, g, wp])))
      exact (hQ _ _ [] rfl rfl rfl).1
    · cases hf
  | false =>
    refine givesW_of' Tryd.func34 rfl (by kernel_rfl) Tryd.ntmps34 rfl rfl fun Q hQ => ?_
    repeat (first | refine tr_seq_k fun _ _ => ?_ | (refine tr_region ?_; simp only [go_sem, reduceCtorEq, Nat.reduceEqDiff, Nat.reduceLT, Nat.reduceLeDiff, Nat.reduceAdd, Nat.reduceMul, Nat.reduceSub, Nat.reduceBEq, ↓reduceIte]) | refine k_of (by assumption) ?_)
    refine tr_cond rfl (fun ht => ?_) (fun hf => ?_)
    · cases ht
    · repeat ((refine tr_skip ?_; try simp only [ex_seq, ex_block]))
      exact (hQ _ _ [] rfl rfl rfl).1
end Go.Proofs.YtaeehadibckcjaaDoor
namespace Go.Proofs.YtaeehadibckcjaaDoor
open Go.RowKit Go.Vs Go.Vs.Ab
set_option maxRecDepth 100000
set_option maxHeartbeats 4000000
variable {A : List Blk} {hw : List Hw} {b : Nat} {ex : Bool} {L : List Tk} {n : Int}
theorem low_re {i j : Nat} {x y : Blk} (hx : lowB i j (A.set b x) = true) (hy : lows i j y.cs = true) : lowB i j (A.set b y) = true := by
  have := lowB_setb hy b hx
  rwa [List.set_set] at this
theorem low_ext {i j i' : Nat} {x y : Blk} {E : List Blk} (hx : lowB i j (A.set b x) = true) (hi : i ≤ i') (hy : lows i' j y.cs = true) (hE : lowB i' j E = true) : lowB i' j (A.set b y ++ E) = true := by
  rw [lowB_cat, hE, Bool.and_true]
  exact low_re (lowB_up hi (Nat.le_refl _) hx) hy
theorem withE {F : FuncId} {args : List AV} {r0 : AV} {x y : Blk} (h : ∀ A' : List Blk, b < A'.length → GivesW Tryd.prog F args ⟨A'.set b x, hw⟩ r0 ⟨A'.set b y, hw⟩) (hb : b < A.length) (E : List Blk) : GivesW Tryd.prog F args ⟨A.set b x ++ E, hw⟩ r0 ⟨A.set b y ++ E, hw⟩ := by
  have := h (A ++ E) (by rw [List.length_append]; omega)
  rwa [set_app hb, set_app hb] at this
theorem conv_b (x : Int) : pureVal Tryd.prog (convert 5 3 (.int .u8 x)) = some (.int .i64 (IntKind.i64.wrap x)) := by
  unfold convert
  simp [pv_bind, pv_under Tryd.underlying5, pv_under Tryd.underlying3]
  rfl
theorem nextS3 (L : List Tk) (r : Rs) : (∀ c ∈ lts (nextS L r 3), digB c = true) ∧ (nextS L r 3).size ≤ 7 := by
  unfold nextS
  split
  · rename_i h
    unfold nextOk at h
    rw [Bool.and_eq_true] at h
    cases hl : L[r.i]? with
    | none => exact ⟨fun c hc => (by cases hc), Nat.zero_le _⟩
    | some t =>
      rw [hl] at h
      have h2 : pnum t.text = true := h.2
      unfold pnum at h2
      simp only [Bool.and_eq_true, List.all_eq_true, decide_eq_true_eq] at h2
      exact ⟨h2.1, by have := h2.2.2.1; dsimp only; omega⟩
  · exact ⟨fun c hc => (by cases hc), Nat.zero_le _⟩
theorem number_gives (hb : b < A.length) (hL : TkOk L) (r : Rs) : GivesW Tryd.prog 32 [.ptr b 0] ⟨A.set b (rdB ex L n r), hw⟩ (iA (numB (nextS L r 3))) ⟨A.set b (rdB ex L n (nextR L n r 3)), hw⟩ := by
  have cN := next_gives (hw := hw) (ex := ex) (n := n) hb hL r 3 (by omega)
  obtain ⟨hd, hz⟩ := nextS3 L r
  generalize nextS L r 3 = s at *
  generalize nextR L n r 3 = r1 at *
  have lsz := lts_len s
  have hpow : ∀ k, k ≤ 7 → (10 ^ k : Nat) ≤ 10000000 := fun k hk => by
    have := Nat.pow_le_pow_right (n := 10) (by decide) hk
    exact this
  refine givesW_of' Tryd.func32 rfl (by kernel_rfl) Tryd.ntmps32 rfl rfl fun Q hQ => ?_
  refine tr_low fun hW => ?_
  repeat (first | refine tr_seq_k fun _ _ => ?_ | (refine tr_region ?_; simp only [go_sem, reduceCtorEq, Nat.reduceEqDiff, Nat.reduceLT, Nat.reduceLeDiff, Nat.reduceAdd, Nat.reduceMul, Nat.reduceSub, Nat.reduceBEq, ↓reduceIte]) | (refine call_givesW (cN) ?_; (try dsimp only); (try simp only [go_sem, reduceCtorEq, Nat.reduceEqDiff, Nat.reduceLT, Nat.reduceLeDiff, Nat.reduceAdd, Nat.reduceMul, Nat.reduceSub, Nat.reduceBEq, ↓reduceIte])) | refine k_of (by assumption) ?_ | refine tr_block ?_)
  refine tr_loop_k (σ := Nat) (fun k => [(3, sA s), (4, iA (numK ((lts s).take k))), (5, iA k)]) (fun _ => ⟨A.set b (rdB ex L n r1), hw⟩) (fun k => k ≤ (lts s).length) (fun k => (lts s).length - k) 0 (Nat.zero_le _) ⟨rfl, rfl, rfl, trivial⟩ rfl ?_
  rintro k hk K hK
  by_cases hkl : k < (lts s).length
  · have d1 : decide ((k : Int) < (s.size : Nat)) = true := decide_eq_true (by omega)
    have ix := idx_str s hkl
    have ws := wrap_succ (show k ≤ 1000000000 by omega)
    obtain ⟨q1, q2⟩ := numK_take hd k hk
    have q3 := hpow k (by omega)
    have hs := numK_snoc ((lts s).take k) (lts s)[k]
    rw [← List.take_succ_eq_append_getElem hkl] at hs
    have hc := hd (lts s)[k] (List.getElem_mem hkl)
    generalize (lts s)[k] = c at *
    generalize numK ((lts s).take k) = x at *
    simp only [digB, Bool.and_eq_true, decide_eq_true_eq] at hc
    have w1 : IntKind.i64.wrap (10 * x) = 10 * x := wrap_in (by omega)
    have w2 : IntKind.u8.wrap ((c.toNat : Int) - 48) = (c.toNat : Int) - 48 := by
      have : IntKind.u8.wrap ((c.toNat : Int) - 48) = ((c.toNat : Int) - 48) % 256 := rfl
      rw [this]; omega
    have w3 : IntKind.i64.wrap ((c.toNat : Int) - 48) = (c.toNat : Int) - 48 := wrap_in (by omega)
    have w4 : IntKind.i64.wrap (10 * x + ((c.toNat : Int) - 48)) = 10 * x + ((c.toNat : Int) - 48) := wrap_in (by omega)
    repeat (first | refine tr_seq_k fun _ _ => ?_ | (refine tr_region ?_; simp only [go_sem, reduceCtorEq, Nat.reduceEqDiff, Nat.reduceLT, Nat.reduceLeDiff, Nat.reduceAdd, Nat.reduceMul, Nat.reduceSub, Nat.reduceBEq, ↓reduceIte, d1]) | refine k_of (by assumption) ?_)
    refine tr_cond rfl (fun ht => ?_) (fun hf => ?_)
    · repeat (first | refine tr_seq_k fun _ _ => ?_ | (refine tr_region ?_; simp only [go_sem, reduceCtorEq, Nat.reduceEqDiff, Nat.reduceLT, Nat.reduceLeDiff, Nat.reduceAdd, Nat.reduceMul, Nat.reduceSub, Nat.reduceBEq, ↓reduceIte, ix, w1, w2, w3, w4, conv_b, ws]) | refine k_of (by assumption) ?_ | refine tr_block ?_ | (refine tr_skip ?_; try simp only [ex_seq, ex_block]))
      exact hK (k + 1) _ _ hkl ⟨⟨rfl, by rw [hs]; rfl, rfl, trivial⟩, Keep.refl _, rfl, by rw [List.length_set] at hW ⊢; exact low_re hW rfl, Nat.le_refl _, Nat.le_refl _⟩ (by omega)
    · cases hf
  · have d1 : decide ((k : Int) < (s.size : Nat)) = false := decide_eq_false (by omega)
    obtain rfl : k = (lts s).length := by omega
    rw [List.take_length]
    repeat (first | refine tr_seq_k fun _ _ => ?_ | (refine tr_region ?_; simp only [go_sem, reduceCtorEq, Nat.reduceEqDiff, Nat.reduceLT, Nat.reduceLeDiff, Nat.reduceAdd, Nat.reduceMul, Nat.reduceSub, Nat.reduceBEq, ↓reduceIte, d1]) | refine k_of (by assumption) ?_)
    refine tr_cond rfl (fun ht => ?_) (fun hf => ?_)
    · cases ht
    · repeat (first | refine tr_seq_k fun _ _ => ?_ | (refine tr_region ?_; simp only [go_sem, reduceCtorEq, Nat.reduceEqDiff, Nat.reduceLT, Nat.reduceLeDiff, Nat.reduceAdd, Nat.reduceMul, Nat.reduceSub, Nat.reduceBEq, ↓reduceIte]) | refine k_of (by assumption) ?_ | (refine tr_exit ?_; try simp only [ex_seq_exit, ex_block_exit, Nat.reduceEqDiff, if_true, if_false, ex_seq, ex_block, reduceCtorEq, ↓reduceIte]) | (refine tr_ret ?_; try simp only [ex_seq_ret, ex_block_ret]))
      refine (hQ _ _ [iA (numK (lts s))] ?_ rfl rfl).2 <;> simp only [go_sem, reduceCtorEq, Nat.reduceEqDiff, Nat.reduceLT, Nat.reduceLeDiff, Nat.reduceAdd, Nat.reduceMul, Nat.reduceSub, Nat.reduceBEq, ↓reduceIte, Tryd.f32]
/-! ### what is said -/
def atX (says pred : ByteArray) (ts : List Tm) : List AV := [sA says, sA pred, iA ts.length, bA (ts.getD 0 noT).v, sA (ts.getD 0 noT).name, bA (ts.getD 1 noT).v, sA (ts.getD 1 noT).name, bA (ts.getD 2 noT).v, sA (ts.getD 2 noT).name, bA (ts.getD 3 noT).v, sA (ts.getD 3 noT).name]
abbrev atZ0 : Blk := ⟨false, [sA ⟨#[]⟩, sA ⟨#[]⟩, iA 0, bA false, sA ⟨#[]⟩, bA false, sA ⟨#[]⟩, bA false, sA ⟨#[]⟩, bA false, sA ⟨#[]⟩]⟩
theorem len_cases {ts : List Tm} (h : ts.length ≤ 3) : ts = [] ∨ (∃ a, ts = [a]) ∨ (∃ a c, ts = [a, c]) ∨ ∃ a c d, ts = [a, c, d] := by
  match ts, h with
  | [], _ => exact Or.inl rfl
  | [a], _ => exact Or.inr (Or.inl ⟨a, rfl⟩)
  | [a, c], _ => exact Or.inr (Or.inr (Or.inl ⟨a, c, rfl⟩))
  | [a, c, d], _ => exact Or.inr (Or.inr (Or.inr ⟨a, c, d, rfl⟩))
theorem saidL_succ (L : List Tk) (n : Int) (f : Nat) (r : Rs) (ts : List Tm) : saidL L n (f + 1) r ts =
    if r.e = 0 then
      if (nextR L n r 2).e = 0 then
        if ts.length = 4 then ((nextR L n r 2).fail L n 4 r.i, ts)
        else if isT L (nextR L n r 2) kCom then saidL L n f (nextR L n r 2).adv (ts ++ [⟨pvariable (nextS L r 2), nextS L r 2⟩])
        else (nextR L n r 2, ts ++ [⟨pvariable (nextS L r 2), nextS L r 2⟩])
      else (nextR L n r 2, ts)
    else (r, ts) := rfl
theorem isT_bad {L : List Tk} {r : Rs} (s : ByteArray) (h : r.e ≠ 0) : isT L r s = false := by
  unfold isT
  rw [decide_eq_false h]
  rfl
theorem ixArr (B off : Nat) {k : Nat} (h : k < 4) : aIndexAddr Tryd.prog 40 (.ptr B off) (.c (.v (.int .i64 (k : Int)))) = some (.ptr B (off + k * 2)) := by
  have h1 : Nat.blt k 4 = true := by simpa using h
  have hn : ¬ ((k : Int) < 0) := by omega
  simp only [aIndexAddr, intV, Tryd.underlying40, sz39, Int.toNat_natCast, h1, if_true, hn, decide_false, Bool.false_eq_true, if_false]
theorem said_raw (hb : b < A.length) (hL : TkOk L) (r : Rs) (says : ByteArray) : ∃ y z : Blk, GivesW Tryd.prog 63 [.ptr b 0, sA says] ⟨A.set b (rdB ex L n r), hw⟩ (atA (saidF L n r says).2) ⟨A.set b (rdB ex L n (saidF L n r says).1) ++ [y, z], hw⟩ := by
  have g := fun (E : List Blk) x => sa_get (A := A) (E := E) hb x
  have g' := fun x => s_get (A := A) hb x
  have t := fun (E : List Blk) x y => sa_set (A := A) (E := E) hb x y
  have cN1 := withE (fun A' hb' => next_gives (A := A') (hw := hw) (ex := ex) (n := n) hb' hL r 1 (by omega)) hb [atZ0]
  unfold saidF
  obtain ⟨r1, hr1⟩ : ∃ r1, r1 = nextR L n r 1 := ⟨_, rfl⟩
  rw [← hr1] at cN1 ⊢
  generalize nextS L r 1 = p at *
  have cM := withE (fun A' hb' => maybe_gives (A := A') (hw := hw) (ex := ex) (n := n) hb' hL.len r1 kOpen) hb [atZ0, ⟨false, atX says p []⟩]
  unfold maybeR at cM
  cases h1 : isT L r1 kOpen with
  | false =>
    rw [h1, if_neg Bool.false_ne_true] at cM
    rw [if_neg Bool.false_ne_true]
    refine ⟨⟨false, atX says p []⟩, ⟨false, atX says p []⟩, ?_⟩
    refine givesW_of' Tryd.func63 rfl (by kernel_rfl) Tryd.ntmps63 rfl rfl fun Q hQ => ?_
    repeat (first | refine tr_seq_k fun _ _ => ?_ | (refine tr_region ?_; simp only [go_sem, reduceCtorEq, Nat.reduceEqDiff, Nat.reduceLT, Nat.reduceLeDiff, Nat.reduceAdd, Nat.reduceMul, Nat.reduceSub, Nat.reduceBEq, ↓reduceIte, g, g', t, s_set, List.length_set, List.length_append, List.length_cons, List.length_nil, List.append_assoc, List.cons_append, List.nil_append, sa_get0, sa_get1, sa_set0, sa_set1]) | (refine call_givesW (cN1) ?_; (try dsimp only); (try simp only [go_sem, reduceCtorEq, Nat.reduceEqDiff, Nat.reduceLT, Nat.reduceLeDiff, Nat.reduceAdd, Nat.reduceMul, Nat.reduceSub, Nat.reduceBEq, ↓reduceIte, g, g', t, s_set, List.length_set, List.length_append, List.length_cons, List.length_nil, List.append_assoc, List.cons_append, List.nil_append, sa_get0, sa_get1, sa_set0, sa_set1])) | (refine call_givesW (cM) ?_; (try dsimp only); (try simp only [go_sem, reduceCtorEq, Nat.reduceEqDiff, Nat.reduceLT, Nat.reduceLeDiff, Nat.reduceAdd, Nat.reduceMul, Nat.reduceSub, Nat.reduceBEq, ↓reduceIte, g, g', t, s_set, List.length_set, List.length_append, List.length_cons, List.length_nil, List.append_assoc, List.cons_append, List.nil_append, sa_get0, sa_get1, sa_set0, sa_set1])) | refine k_of (by assumption) ?_)
    refine tr_cond rfl (fun ht => ?_) (fun hf => ?_)
    · repeat (first | refine tr_seq_k fun _ _ => ?_ | (refine tr_region ?_; simp only [go_sem, reduceCtorEq, Nat.reduceEqDiff, Nat.reduceLT, Nat.reduceLeDiff, Nat.reduceAdd, Nat.reduceMul, Nat.reduceSub, Nat.reduceBEq, ↓reduceIte, g, g', t, s_set, List.length_set, List.length_append, List.length_cons, List.length_nil, List.append_assoc, List.cons_append, List.nil_append, sa_get0, sa_get1, sa_set0, sa_set1, atX]) | refine k_of (by assumption) ?_ | (refine tr_ret ?_; try simp only [ex_seq_ret, ex_block_ret]))
      refine (hQ _ _ [.agg [.v (.string says), .v (.string p), .v (.int .i64 (([] : List Tm).length : Nat)), .v (.bool (([] : List Tm).getD 0 noT).v), .v (.string (([] : List Tm).getD 0 noT).name), .v (.bool (([] : List Tm).getD 1 noT).v), .v (.string (([] : List Tm).getD 1 noT).name), .v (.bool (([] : List Tm).getD 2 noT).v), .v (.string (([] : List Tm).getD 2 noT).name), .v (.bool (([] : List Tm).getD 3 noT).v), .v (.string (([] : List Tm).getD 3 noT).name)]] ?_ rfl rfl).2 <;> simp only [go_sem, reduceCtorEq, Nat.reduceEqDiff, Nat.reduceLT, Nat.reduceLeDiff, Nat.reduceAdd, Nat.reduceMul, Nat.reduceSub, Nat.reduceBEq, ↓reduceIte, Tryd.f63, g, g', t, s_set, List.length_set, List.length_append, List.length_cons, List.length_nil, List.append_assoc, List.cons_append, List.nil_append, sa_get0, sa_get1, sa_set0, sa_set1, atX]
    · cases hf
  | true =>
    rw [h1, if_pos rfl] at cM
    rw [if_pos rfl]
    obtain ⟨T, hT⟩ : ∃ T, T = saidL L n 5 r1.adv [] := ⟨_, rfl⟩
    rw [← hT]
    have cMe := withE (fun A' hb' => must_gives (A := A') (hw := hw) (ex := ex) (n := n) hb' hL.len T.1 kShut) hb [atZ0, ⟨false, atX says p T.2⟩]
    refine ⟨⟨false, atX says p T.2⟩, ⟨false, atX says p T.2⟩, ?_⟩
    refine givesW_of' Tryd.func63 rfl (by kernel_rfl) Tryd.ntmps63 rfl rfl fun Q hQ => ?_
    refine tr_low fun hW => ?_
    rw [List.length_set] at hW
    repeat (first | refine tr_seq_k fun _ _ => ?_ | (refine tr_region ?_; simp only [go_sem, reduceCtorEq, Nat.reduceEqDiff, Nat.reduceLT, Nat.reduceLeDiff, Nat.reduceAdd, Nat.reduceMul, Nat.reduceSub, Nat.reduceBEq, ↓reduceIte, g, g', t, s_set, List.length_set, List.length_append, List.length_cons, List.length_nil, List.append_assoc, List.cons_append, List.nil_append, sa_get0, sa_get1, sa_set0, sa_set1]) | (refine call_givesW (cN1) ?_; (try dsimp only); (try simp only [go_sem, reduceCtorEq, Nat.reduceEqDiff, Nat.reduceLT, Nat.reduceLeDiff, Nat.reduceAdd, Nat.reduceMul, Nat.reduceSub, Nat.reduceBEq, ↓reduceIte, g, g', t, s_set, List.length_set, List.length_append, List.length_cons, List.length_nil, List.append_assoc, List.cons_append, List.nil_append, sa_get0, sa_get1, sa_set0, sa_set1])) | (refine call_givesW (cM) ?_; (try dsimp only); (try simp only [go_sem, reduceCtorEq, Nat.reduceEqDiff, Nat.reduceLT, Nat.reduceLeDiff, Nat.reduceAdd, Nat.reduceMul, Nat.reduceSub, Nat.reduceBEq, ↓reduceIte, g, g', t, s_set, List.length_set, List.length_append, List.length_cons, List.length_nil, List.append_assoc, List.cons_append, List.nil_append, sa_get0, sa_get1, sa_set0, sa_set1])) | refine k_of (by assumption) ?_)
    refine tr_cond rfl (fun ht => ?_) (fun hf => ?_)
    · cases ht
    repeat (first | refine tr_seq_k fun _ _ => ?_ | (refine tr_region ?_; simp only [go_sem, reduceCtorEq, Nat.reduceEqDiff, Nat.reduceLT, Nat.reduceLeDiff, Nat.reduceAdd, Nat.reduceMul, Nat.reduceSub, Nat.reduceBEq, ↓reduceIte]) | refine k_of (by assumption) ?_ | refine tr_block ?_ | (refine tr_skip ?_; try simp only [ex_seq, ex_block]))
    refine tr_loop_k (σ := Bool × Nat × Rs × List Tm) (fun q => [(0, .ptr b 0), (4, .ptr A.length 0), (5, .ptr (A.length + 1) 0), (6, bA q.1)]) (fun q => ⟨A.set b (rdB ex L n q.2.2.1) ++ [atZ0, ⟨false, atX says p q.2.2.2⟩], hw⟩)
      (fun q => (q.1 = true → saidL L n q.2.1 q.2.2.1 q.2.2.2 = T ∧ q.2.2.2.length + q.2.1 = 5 ∧ q.2.2.2.length ≤ 4) ∧ (q.1 = false → (q.2.2.1, q.2.2.2) = T)) (fun q => if q.1 then q.2.1 + 1 else 0) (true, 5, r1.adv, []) ⟨fun _ => ⟨hT.symm, rfl, Nat.zero_le _⟩, (fun h => by cases h)⟩ ⟨rfl, rfl, rfl, rfl, trivial⟩ rfl ?_
    rintro ⟨more, f, r2, ts⟩ ⟨hI1, hI2⟩ K hK
    dsimp only at hI1 hI2 ⊢
    cases more with
    | false =>
      obtain rfl := hI2 rfl
      repeat (first | refine tr_seq_k fun _ _ => ?_ | (refine tr_region ?_; simp only [go_sem, reduceCtorEq, Nat.reduceEqDiff, Nat.reduceLT, Nat.reduceLeDiff, Nat.reduceAdd, Nat.reduceMul, Nat.reduceSub, Nat.reduceBEq, ↓reduceIte, g, g', t, s_set, List.length_set, List.length_append, List.length_cons, List.length_nil, List.append_assoc, List.cons_append, List.nil_append, sa_get0, sa_get1, sa_set0, sa_set1]) | refine k_of (by assumption) ?_)
      refine tr_cond rfl (fun ht => ?_) (fun hf => ?_)
      · cases ht
      · dsimp only at cMe
        repeat (first | refine tr_seq_k fun _ _ => ?_ | (refine tr_region ?_; simp only [go_sem, reduceCtorEq, Nat.reduceEqDiff, Nat.reduceLT, Nat.reduceLeDiff, Nat.reduceAdd, Nat.reduceMul, Nat.reduceSub, Nat.reduceBEq, ↓reduceIte, g, g', t, s_set, List.length_set, List.length_append, List.length_cons, List.length_nil, List.append_assoc, List.cons_append, List.nil_append, sa_get0, sa_get1, sa_set0, sa_set1, atX]) | (refine call_givesW (cMe) ?_; (try dsimp only); (try simp only [go_sem, reduceCtorEq, Nat.reduceEqDiff, Nat.reduceLT, Nat.reduceLeDiff, Nat.reduceAdd, Nat.reduceMul, Nat.reduceSub, Nat.reduceBEq, ↓reduceIte, g, g', t, s_set, List.length_set, List.length_append, List.length_cons, List.length_nil, List.append_assoc, List.cons_append, List.nil_append, sa_get0, sa_get1, sa_set0, sa_set1, atX])) | refine k_of (by assumption) ?_ | (refine tr_exit ?_; try simp only [ex_seq_exit, ex_block_exit, Nat.reduceEqDiff, if_true, if_false, ex_seq, ex_block, reduceCtorEq, ↓reduceIte]) | (refine tr_ret ?_; try simp only [ex_seq_ret, ex_block_ret]))
        refine (hQ _ _ [.agg [.v (.string says), .v (.string p), .v (.int .i64 (ts.length : Nat)), .v (.bool (ts.getD 0 noT).v), .v (.string (ts.getD 0 noT).name), .v (.bool (ts.getD 1 noT).v), .v (.string (ts.getD 1 noT).name), .v (.bool (ts.getD 2 noT).v), .v (.string (ts.getD 2 noT).name), .v (.bool (ts.getD 3 noT).v), .v (.string (ts.getD 3 noT).name)]] ?_ rfl rfl).2 <;> simp only [go_sem, reduceCtorEq, Nat.reduceEqDiff, Nat.reduceLT, Nat.reduceLeDiff, Nat.reduceAdd, Nat.reduceMul, Nat.reduceSub, Nat.reduceBEq, ↓reduceIte, Tryd.f63, g, g', t, s_set, List.length_set, List.length_append, List.length_cons, List.length_nil, List.append_assoc, List.cons_append, List.nil_append, sa_get0, sa_get1, sa_set0, sa_set1, atX]
    | true =>
      obtain ⟨hS, hlen, h4⟩ := hI1 rfl
      obtain ⟨f, rfl⟩ : ∃ f', f = f' + 1 := ⟨f - 1, by omega⟩
      rw [saidL_succ] at hS
      cases d1 : decide (r2.e = 0) with
      | false =>
        rw [if_neg (of_decide_eq_false d1)] at hS
        obtain rfl := hS
        repeat (first | refine tr_seq_k fun _ _ => ?_ | (refine tr_region ?_; simp only [go_sem, reduceCtorEq, Nat.reduceEqDiff, Nat.reduceLT, Nat.reduceLeDiff, Nat.reduceAdd, Nat.reduceMul, Nat.reduceSub, Nat.reduceBEq, ↓reduceIte, g, g', t, s_set, List.length_set, List.length_append, List.length_cons, List.length_nil, List.append_assoc, List.cons_append, List.nil_append, sa_get0, sa_get1, sa_set0, sa_set1, d1]) | refine k_of (by assumption) ?_)
        refine tr_cond rfl (fun ht => ?_) (fun hf => ?_)
        · cases ht
        · dsimp only at cMe
          repeat (first | refine tr_seq_k fun _ _ => ?_ | (refine tr_region ?_; simp only [go_sem, reduceCtorEq, Nat.reduceEqDiff, Nat.reduceLT, Nat.reduceLeDiff, Nat.reduceAdd, Nat.reduceMul, Nat.reduceSub, Nat.reduceBEq, ↓reduceIte, g, g', t, s_set, List.length_set, List.length_append, List.length_cons, List.length_nil, List.append_assoc, List.cons_append, List.nil_append, sa_get0, sa_get1, sa_set0, sa_set1, atX]) | (refine call_givesW (cMe) ?_; (try dsimp only); (try simp only [go_sem, reduceCtorEq, Nat.reduceEqDiff, Nat.reduceLT, Nat.reduceLeDiff, Nat.reduceAdd, Nat.reduceMul, Nat.reduceSub, Nat.reduceBEq, ↓reduceIte, g, g', t, s_set, List.length_set, List.length_append, List.length_cons, List.length_nil, List.append_assoc, List.cons_append, List.nil_append, sa_get0, sa_get1, sa_set0, sa_set1, atX])) | refine k_of (by assumption) ?_ | (refine tr_exit ?_; try simp only [ex_seq_exit, ex_block_exit, Nat.reduceEqDiff, if_true, if_false, ex_seq, ex_block, reduceCtorEq, ↓reduceIte]) | (refine tr_ret ?_; try simp only [ex_seq_ret, ex_block_ret]))
          refine (hQ _ _ [.agg [.v (.string says), .v (.string p), .v (.int .i64 (ts.length : Nat)), .v (.bool (ts.getD 0 noT).v), .v (.string (ts.getD 0 noT).name), .v (.bool (ts.getD 1 noT).v), .v (.string (ts.getD 1 noT).name), .v (.bool (ts.getD 2 noT).v), .v (.string (ts.getD 2 noT).name), .v (.bool (ts.getD 3 noT).v), .v (.string (ts.getD 3 noT).name)]] ?_ rfl rfl).2 <;> simp only [go_sem, reduceCtorEq, Nat.reduceEqDiff, Nat.reduceLT, Nat.reduceLeDiff, Nat.reduceAdd, Nat.reduceMul, Nat.reduceSub, Nat.reduceBEq, ↓reduceIte, Tryd.f63, g, g', t, s_set, List.length_set, List.length_append, List.length_cons, List.length_nil, List.append_assoc, List.cons_append, List.nil_append, sa_get0, sa_get1, sa_set0, sa_set1, atX]
      | true =>
        rw [if_pos (of_decide_eq_true d1)] at hS
        have cN2 := withE (fun A' hb' => next_gives (A := A') (hw := hw) (ex := ex) (n := n) hb' hL r2 2 (by omega)) hb [atZ0, ⟨false, atX says p ts⟩]
        generalize nextR L n r2 2 = r3 at *
        generalize nextS L r2 2 = s at *
        have cV := variable_does s
        have px : plainB (atX says p ts) = true := rfl
        have gx : (atX says p ts)[2]? = some (iA ts.length) := rfl
        cases d2 : decide (r3.e = 0) with
        | false =>
          rw [if_neg (of_decide_eq_false d2)] at hS
          have cC := withE (fun A' hb' => maybe_gives (A := A') (hw := hw) (ex := ex) (n := n) hb' hL.len r3 kCom) hb [atZ0, ⟨false, atX says p ts⟩]
          unfold maybeR at cC
          rw [isT_bad _ (of_decide_eq_false d2), if_neg Bool.false_ne_true] at cC
          repeat (first | refine tr_seq_k fun _ _ => ?_ | (refine tr_region ?_; simp only [go_sem, reduceCtorEq, Nat.reduceEqDiff, Nat.reduceLT, Nat.reduceLeDiff, Nat.reduceAdd, Nat.reduceMul, Nat.reduceSub, Nat.reduceBEq, ↓reduceIte, g, g', t, s_set, List.length_set, List.length_append, List.length_cons, List.length_nil, List.append_assoc, List.cons_append, List.nil_append, sa_get0, sa_get1, sa_set0, sa_set1, d1]) | refine k_of (by assumption) ?_)
          refine tr_cond rfl (fun ht => ?_) (fun hf => ?_)
          · repeat (first | refine tr_seq_k fun _ _ => ?_ | (refine tr_region ?_; simp only [go_sem, reduceCtorEq, Nat.reduceEqDiff, Nat.reduceLT, Nat.reduceLeDiff, Nat.reduceAdd, Nat.reduceMul, Nat.reduceSub, Nat.reduceBEq, ↓reduceIte, g, g', t, s_set, List.length_set, List.length_append, List.length_cons, List.length_nil, List.append_assoc, List.cons_append, List.nil_append, sa_get0, sa_get1, sa_set0, sa_set1, d1, d2]) | (refine call_givesW (cN2) ?_; (try dsimp only); (try simp only [go_sem, reduceCtorEq, Nat.reduceEqDiff, Nat.reduceLT, Nat.reduceLeDiff, Nat.reduceAdd, Nat.reduceMul, Nat.reduceSub, Nat.reduceBEq, ↓reduceIte, g, g', t, s_set, List.length_set, List.length_append, List.length_cons, List.length_nil, List.append_assoc, List.cons_append, List.nil_append, sa_get0, sa_get1, sa_set0, sa_set1, d1, d2])) | refine k_of (by assumption) ?_ | refine tr_block ?_ | (refine tr_skip ?_; try simp only [ex_seq, ex_block]))
            refine tr_cond rfl (fun ht => ?_) (fun hf => ?_)
            · cases ht
            · repeat (first | refine tr_seq_k fun _ _ => ?_ | (refine tr_region ?_; simp only [go_sem, reduceCtorEq, Nat.reduceEqDiff, Nat.reduceLT, Nat.reduceLeDiff, Nat.reduceAdd, Nat.reduceMul, Nat.reduceSub, Nat.reduceBEq, ↓reduceIte, g, g', t, s_set, List.length_set, List.length_append, List.length_cons, List.length_nil, List.append_assoc, List.cons_append, List.nil_append, sa_get0, sa_get1, sa_set0, sa_set1, d2]) | refine k_of (by assumption) ?_ | (refine tr_skip ?_; try simp only [ex_seq, ex_block]))
              refine tr_cond rfl (fun ht => ?_) (fun hf => ?_)
              · cases ht
              · repeat (first | (refine tr_region ?_; simp only [go_sem, reduceCtorEq, Nat.reduceEqDiff, Nat.reduceLT, Nat.reduceLeDiff, Nat.reduceAdd, Nat.reduceMul, Nat.reduceSub, Nat.reduceBEq, ↓reduceIte, g, g', t, s_set, List.length_set, List.length_append, List.length_cons, List.length_nil, List.append_assoc, List.cons_append, List.nil_append, sa_get0, sa_get1, sa_set0, sa_set1]) | (refine call_givesW (cC) ?_; (try dsimp only); (try simp only [go_sem, reduceCtorEq, Nat.reduceEqDiff, Nat.reduceLT, Nat.reduceLeDiff, Nat.reduceAdd, Nat.reduceMul, Nat.reduceSub, Nat.reduceBEq, ↓reduceIte, g, g', t, s_set, List.length_set, List.length_append, List.length_cons, List.length_nil, List.append_assoc, List.cons_append, List.nil_append, sa_get0, sa_get1, sa_set0, sa_set1])) | refine k_of (by assumption) ?_ | (refine tr_skip ?_; try simp only [ex_seq, ex_block]))
                exact hK (false, f, r3, ts) _ _ ⟨(fun h => by cases h), fun _ => hS⟩ ⟨⟨rfl, rfl, rfl, rfl, trivial⟩, Keep.refl _, by simp only [lowF, low, List.length_append, List.length_set, List.length_cons, List.length_nil, Nat.blt_eq, Bool.and_eq_true, and_true]; omega, by simp only [List.length_append, List.length_set, List.length_cons, List.length_nil]; exact low_ext hW (by omega) rfl rfl, by simp only [List.length_append, List.length_set]; exact Nat.le_refl _, Nat.le_refl _⟩ (by simp)
          · cases hf
        | true =>
          rw [if_pos (of_decide_eq_true d2)] at hS
          by_cases hl4 : ts.length = 4
          · rw [if_pos hl4] at hS
            have d3 : decide ((ts.length : Int) = 4) = true := decide_eq_true (by omega)
            have cF := withE (fun A' hb' => fail_gives (A := A') (hw := hw) (ex := ex) (L := L) (n := n) hb' r3 4 r2.i) hb [atZ0, ⟨false, atX says p ts⟩]
            have hfe : (r3.fail L n 4 r2.i).e = 4 := by
              unfold Rs.fail
              rw [if_pos (of_decide_eq_true d2)]
            generalize r3.fail L n 4 r2.i = r4 at *
            have d4 : decide (r4.e = 0) = false := decide_eq_false (by omega)
            have cC := withE (fun A' hb' => maybe_gives (A := A') (hw := hw) (ex := ex) (n := n) hb' hL.len r4 kCom) hb [atZ0, ⟨false, atX says p ts⟩]
            unfold maybeR at cC
            rw [isT_bad _ (of_decide_eq_false d4), if_neg Bool.false_ne_true] at cC
            repeat (first | refine tr_seq_k fun _ _ => ?_ | (refine tr_region ?_; simp only [go_sem, reduceCtorEq, Nat.reduceEqDiff, Nat.reduceLT, Nat.reduceLeDiff, Nat.reduceAdd, Nat.reduceMul, Nat.reduceSub, Nat.reduceBEq, ↓reduceIte, g, g', t, s_set, List.length_set, List.length_append, List.length_cons, List.length_nil, List.append_assoc, List.cons_append, List.nil_append, sa_get0, sa_get1, sa_set0, sa_set1, d1]) | refine k_of (by assumption) ?_)
            refine tr_cond rfl (fun ht => ?_) (fun hf => ?_)
            · repeat (first | refine tr_seq_k fun _ _ => ?_ | (refine tr_region ?_; simp only [go_sem, reduceCtorEq, Nat.reduceEqDiff, Nat.reduceLT, Nat.reduceLeDiff, Nat.reduceAdd, Nat.reduceMul, Nat.reduceSub, Nat.reduceBEq, ↓reduceIte, g, g', t, s_set, List.length_set, List.length_append, List.length_cons, List.length_nil, List.append_assoc, List.cons_append, List.nil_append, sa_get0, sa_get1, sa_set0, sa_set1, d1, d2, d3, px, gx]) | (refine call_givesW (cN2) ?_; (try dsimp only); (try simp only [go_sem, reduceCtorEq, Nat.reduceEqDiff, Nat.reduceLT, Nat.reduceLeDiff, Nat.reduceAdd, Nat.reduceMul, Nat.reduceSub, Nat.reduceBEq, ↓reduceIte, g, g', t, s_set, List.length_set, List.length_append, List.length_cons, List.length_nil, List.append_assoc, List.cons_append, List.nil_append, sa_get0, sa_get1, sa_set0, sa_set1, d1, d2, d3, px, gx])) | refine k_of (by assumption) ?_ | refine tr_block ?_ | (refine tr_skip ?_; try simp only [ex_seq, ex_block]))
              refine tr_cond rfl (fun ht => ?_) (fun hf => ?_)
              · repeat (first | refine tr_seq_k fun _ _ => ?_ | (refine tr_region ?_; simp only [go_sem, reduceCtorEq, Nat.reduceEqDiff, Nat.reduceLT, Nat.reduceLeDiff, Nat.reduceAdd, Nat.reduceMul, Nat.reduceSub, Nat.reduceBEq, ↓reduceIte, g, g', t, s_set, List.length_set, List.length_append, List.length_cons, List.length_nil, List.append_assoc, List.cons_append, List.nil_append, sa_get0, sa_get1, sa_set0, sa_set1, d4]) | (refine call_givesW (cF) ?_; (try dsimp only); (try simp only [go_sem, reduceCtorEq, Nat.reduceEqDiff, Nat.reduceLT, Nat.reduceLeDiff, Nat.reduceAdd, Nat.reduceMul, Nat.reduceSub, Nat.reduceBEq, ↓reduceIte, g, g', t, s_set, List.length_set, List.length_append, List.length_cons, List.length_nil, List.append_assoc, List.cons_append, List.nil_append, sa_get0, sa_get1, sa_set0, sa_set1, d4])) | refine k_of (by assumption) ?_)
                refine tr_cond rfl (fun ht => ?_) (fun hf => ?_)
                · cases ht
                · repeat (first | (refine tr_region ?_; simp only [go_sem, reduceCtorEq, Nat.reduceEqDiff, Nat.reduceLT, Nat.reduceLeDiff, Nat.reduceAdd, Nat.reduceMul, Nat.reduceSub, Nat.reduceBEq, ↓reduceIte, g, g', t, s_set, List.length_set, List.length_append, List.length_cons, List.length_nil, List.append_assoc, List.cons_append, List.nil_append, sa_get0, sa_get1, sa_set0, sa_set1]) | (refine call_givesW (cC) ?_; (try dsimp only); (try simp only [go_sem, reduceCtorEq, Nat.reduceEqDiff, Nat.reduceLT, Nat.reduceLeDiff, Nat.reduceAdd, Nat.reduceMul, Nat.reduceSub, Nat.reduceBEq, ↓reduceIte, g, g', t, s_set, List.length_set, List.length_append, List.length_cons, List.length_nil, List.append_assoc, List.cons_append, List.nil_append, sa_get0, sa_get1, sa_set0, sa_set1])) | refine k_of (by assumption) ?_ | (refine tr_skip ?_; try simp only [ex_seq, ex_block]))
                  exact hK (false, f, r4, ts) _ _ ⟨(fun h => by cases h), fun _ => hS⟩ ⟨⟨rfl, rfl, rfl, rfl, trivial⟩, Keep.refl _, by simp only [lowF, low, List.length_append, List.length_set, List.length_cons, List.length_nil, Nat.blt_eq, Bool.and_eq_true, and_true]; omega, by simp only [List.length_append, List.length_set, List.length_cons, List.length_nil]; exact low_ext hW (by omega) rfl rfl, by simp only [List.length_append, List.length_set]; exact Nat.le_refl _, Nat.le_refl _⟩ (by simp)
              · cases hf
            · cases hf
          · rw [if_neg hl4] at hS
            have d3 : decide ((ts.length : Int) = 4) = false := decide_eq_false (by omega)
            have cC := withE (fun A' hb' => maybe_gives (A := A') (hw := hw) (ex := ex) (n := n) hb' hL.len r3 kCom) hb [atZ0, ⟨false, atX says p (ts ++ [⟨pvariable s, s⟩])⟩]
            unfold maybeR at cC
            repeat (first | refine tr_seq_k fun _ _ => ?_ | (refine tr_region ?_; simp only [go_sem, reduceCtorEq, Nat.reduceEqDiff, Nat.reduceLT, Nat.reduceLeDiff, Nat.reduceAdd, Nat.reduceMul, Nat.reduceSub, Nat.reduceBEq, ↓reduceIte, g, g', t, s_set, List.length_set, List.length_append, List.length_cons, List.length_nil, List.append_assoc, List.cons_append, List.nil_append, sa_get0, sa_get1, sa_set0, sa_set1, d1]) | refine k_of (by assumption) ?_)
            refine tr_cond rfl (fun ht => ?_) (fun hf => ?_)
            · repeat (first | refine tr_seq_k fun _ _ => ?_ | (refine tr_region ?_; simp only [go_sem, reduceCtorEq, Nat.reduceEqDiff, Nat.reduceLT, Nat.reduceLeDiff, Nat.reduceAdd, Nat.reduceMul, Nat.reduceSub, Nat.reduceBEq, ↓reduceIte, g, g', t, s_set, List.length_set, List.length_append, List.length_cons, List.length_nil, List.append_assoc, List.cons_append, List.nil_append, sa_get0, sa_get1, sa_set0, sa_set1, d1, d2, d3, px, gx]) | (refine call_givesW (cN2) ?_; (try dsimp only); (try simp only [go_sem, reduceCtorEq, Nat.reduceEqDiff, Nat.reduceLT, Nat.reduceLeDiff, Nat.reduceAdd, Nat.reduceMul, Nat.reduceSub, Nat.reduceBEq, ↓reduceIte, g, g', t, s_set, List.length_set, List.length_append, List.length_cons, List.length_nil, List.append_assoc, List.cons_append, List.nil_append, sa_get0, sa_get1, sa_set0, sa_set1, d1, d2, d3, px, gx])) | refine k_of (by assumption) ?_ | refine tr_block ?_ | (refine tr_skip ?_; try simp only [ex_seq, ex_block]))
              refine tr_cond rfl (fun ht => ?_) (fun hf => ?_)
              · cases ht
              · repeat (first | refine tr_seq_k fun _ _ => ?_ | (refine tr_region ?_; simp only [go_sem, reduceCtorEq, Nat.reduceEqDiff, Nat.reduceLT, Nat.reduceLeDiff, Nat.reduceAdd, Nat.reduceMul, Nat.reduceSub, Nat.reduceBEq, ↓reduceIte, g, g', t, s_set, List.length_set, List.length_append, List.length_cons, List.length_nil, List.append_assoc, List.cons_append, List.nil_append, sa_get0, sa_get1, sa_set0, sa_set1, d2]) | refine k_of (by assumption) ?_ | (refine tr_skip ?_; try simp only [ex_seq, ex_block]))
                refine tr_cond rfl (fun ht => ?_) (fun hf => ?_)
                · rcases len_cases (ts := ts) (by omega) with rfl | ⟨a, rfl⟩ | ⟨a, c, rfl⟩ | ⟨a, c, d, rfl⟩
                  · rw [show atX says p [] = [.c (.v (.string says)), .c (.v (.string p)), .c (.v (.int .i64 0)), .c (.v (.bool noT.v)), .c (.v (.string noT.name)), .c (.v (.bool noT.v)), .c (.v (.string noT.name)), .c (.v (.bool noT.v)), .c (.v (.string noT.name)), .c (.v (.bool noT.v)), .c (.v (.string noT.name))] from rfl]
                    have w1 : IntKind.i64.wrap ((0 : Int) + 1) = 1 := by decide
                    have ixa : aIndexAddr Tryd.prog 40 (.ptr (A.length + 1) 3) (.c (.v (.int .i64 0))) = some (.ptr (A.length + 1) 3) := ixArr (A.length + 1) 3 (k := 0) (by decide)
                    repeat (first | refine tr_seq_k fun _ _ => ?_ | (refine tr_region ?_; simp only [go_sem, reduceCtorEq, Nat.reduceEqDiff, Nat.reduceLT, Nat.reduceLeDiff, Nat.reduceAdd, Nat.reduceMul, Nat.reduceSub, Nat.reduceBEq, ↓reduceIte, g, g', t, s_set, List.length_set, List.length_append, List.length_cons, List.length_nil, List.append_assoc, List.cons_append, List.nil_append, sa_get0, sa_get1, sa_set0, sa_set1, w1, ixa]) | (refine tr_draw (id := 12) follows 8 [3, 8] [0, 1, 2, 4, 6, 3, 5, 7, 8] (by kernel_rfl) ?_; simp only [go_sem, reduceCtorEq, Nat.reduceEqDiff, Nat.reduceLT, Nat.reduceLeDiff, Nat.reduceAdd, Nat.reduceMul, Nat.reduceSub, Nat.reduceBEq, ↓reduceIte, g, g', t, s_set, List.length_set, List.length_append, List.length_cons, List.length_nil, List.append_assoc, List.cons_append, List.nil_append, sa_get0, sa_get1, sa_set0, sa_set1, w1, ixa]) | (refine call_of (cV) ?_ ?_; (first | rfl | simp only [go_sem, reduceCtorEq, Nat.reduceEqDiff, Nat.reduceLT, Nat.reduceLeDiff, Nat.reduceAdd, Nat.reduceMul, Nat.reduceSub, Nat.reduceBEq, ↓reduceIte, g, g', t, s_set, List.length_set, List.length_append, List.length_cons, List.length_nil, List.append_assoc, List.cons_append, List.nil_append, sa_get0, sa_get1, sa_set0, sa_set1, w1, ixa, shut_col]); simp only [go_sem, reduceCtorEq, Nat.reduceEqDiff, Nat.reduceLT, Nat.reduceLeDiff, Nat.reduceAdd, Nat.reduceMul, Nat.reduceSub, Nat.reduceBEq, ↓reduceIte, g, g', t, s_set, List.length_set, List.length_append, List.length_cons, List.length_nil, List.append_assoc, List.cons_append, List.nil_append, sa_get0, sa_get1, sa_set0, sa_set1, w1, ixa]) | refine k_of (by assumption) ?_)
                    cases h5 : isT L r3 kCom with
                    | true =>
                      rw [h5, if_pos rfl] at cC
                      rw [h5, if_pos rfl] at hS
                      repeat ((refine call_givesW (cC) ?_; (try dsimp only); (try simp only [go_sem, reduceCtorEq, Nat.reduceEqDiff, Nat.reduceLT, Nat.reduceLeDiff, Nat.reduceAdd, Nat.reduceMul, Nat.reduceSub, Nat.reduceBEq, ↓reduceIte, g, g', t, s_set, List.length_set, List.length_append, List.length_cons, List.length_nil, List.append_assoc, List.cons_append, List.nil_append, sa_get0, sa_get1, sa_set0, sa_set1])))
                      exact hK (true, f, r3.adv, [(⟨pvariable s, s⟩ : Tm)]) _ _ ⟨fun _ => ⟨hS, by simp only [List.length_cons, List.length_nil] at hlen ⊢; omega, by simp⟩, (fun h => by cases h)⟩ ⟨⟨rfl, rfl, rfl, rfl, trivial⟩, Keep.refl _, by simp only [lowF, low, List.length_append, List.length_set, List.length_cons, List.length_nil, Nat.blt_eq, Bool.and_eq_true, and_true]; omega, by simp only [List.length_append, List.length_set, List.length_cons, List.length_nil]; exact low_ext hW (by omega) rfl rfl, by simp only [List.length_append, List.length_set]; exact Nat.le_refl _, Nat.le_refl _⟩ (by simp)
                    | false =>
                      rw [h5, if_neg Bool.false_ne_true] at cC
                      rw [h5, if_neg Bool.false_ne_true] at hS
                      repeat ((refine call_givesW (cC) ?_; (try dsimp only); (try simp only [go_sem, reduceCtorEq, Nat.reduceEqDiff, Nat.reduceLT, Nat.reduceLeDiff, Nat.reduceAdd, Nat.reduceMul, Nat.reduceSub, Nat.reduceBEq, ↓reduceIte, g, g', t, s_set, List.length_set, List.length_append, List.length_cons, List.length_nil, List.append_assoc, List.cons_append, List.nil_append, sa_get0, sa_get1, sa_set0, sa_set1])))
                      exact hK (false, f, r3, [(⟨pvariable s, s⟩ : Tm)]) _ _ ⟨(fun h => by cases h), fun _ => hS⟩ ⟨⟨rfl, rfl, rfl, rfl, trivial⟩, Keep.refl _, by simp only [lowF, low, List.length_append, List.length_set, List.length_cons, List.length_nil, Nat.blt_eq, Bool.and_eq_true, and_true]; omega, by simp only [List.length_append, List.length_set, List.length_cons, List.length_nil]; exact low_ext hW (by omega) rfl rfl, by simp only [List.length_append, List.length_set]; exact Nat.le_refl _, Nat.le_refl _⟩ (by simp)
                  · rw [show atX says p [a] = [.c (.v (.string says)), .c (.v (.string p)), .c (.v (.int .i64 1)), .c (.v (.bool a.v)), .c (.v (.string a.name)), .c (.v (.bool noT.v)), .c (.v (.string noT.name)), .c (.v (.bool noT.v)), .c (.v (.string noT.name)), .c (.v (.bool noT.v)), .c (.v (.string noT.name))] from rfl]
                    have w1 : IntKind.i64.wrap ((1 : Int) + 1) = 2 := by decide
                    have ixa : aIndexAddr Tryd.prog 40 (.ptr (A.length + 1) 3) (.c (.v (.int .i64 1))) = some (.ptr (A.length + 1) 5) := ixArr (A.length + 1) 3 (k := 1) (by decide)
                    repeat (first | refine tr_seq_k fun _ _ => ?_ | (refine tr_region ?_; simp only [go_sem, reduceCtorEq, Nat.reduceEqDiff, Nat.reduceLT, Nat.reduceLeDiff, Nat.reduceAdd, Nat.reduceMul, Nat.reduceSub, Nat.reduceBEq, ↓reduceIte, g, g', t, s_set, List.length_set, List.length_append, List.length_cons, List.length_nil, List.append_assoc, List.cons_append, List.nil_append, sa_get0, sa_get1, sa_set0, sa_set1, w1, ixa]) | (refine tr_draw (id := 12) follows 8 [3, 8] [0, 1, 2, 4, 6, 3, 5, 7, 8] (by kernel_rfl) ?_; simp only [go_sem, reduceCtorEq, Nat.reduceEqDiff, Nat.reduceLT, Nat.reduceLeDiff, Nat.reduceAdd, Nat.reduceMul, Nat.reduceSub, Nat.reduceBEq, ↓reduceIte, g, g', t, s_set, List.length_set, List.length_append, List.length_cons, List.length_nil, List.append_assoc, List.cons_append, List.nil_append, sa_get0, sa_get1, sa_set0, sa_set1, w1, ixa]) | (refine call_of (cV) ?_ ?_; (first | rfl | simp only [go_sem, reduceCtorEq, Nat.reduceEqDiff, Nat.reduceLT, Nat.reduceLeDiff, Nat.reduceAdd, Nat.reduceMul, Nat.reduceSub, Nat.reduceBEq, ↓reduceIte, g, g', t, s_set, List.length_set, List.length_append, List.length_cons, List.length_nil, List.append_assoc, List.cons_append, List.nil_append, sa_get0, sa_get1, sa_set0, sa_set1, w1, ixa, shut_col]); simp only [go_sem, reduceCtorEq, Nat.reduceEqDiff, Nat.reduceLT, Nat.reduceLeDiff, Nat.reduceAdd, Nat.reduceMul, Nat.reduceSub, Nat.reduceBEq, ↓reduceIte, g, g', t, s_set, List.length_set, List.length_append, List.length_cons, List.length_nil, List.append_assoc, List.cons_append, List.nil_append, sa_get0, sa_get1, sa_set0, sa_set1, w1, ixa]) | refine k_of (by assumption) ?_)
                    cases h5 : isT L r3 kCom with
                    | true =>
                      rw [h5, if_pos rfl] at cC
                      rw [h5, if_pos rfl] at hS
                      repeat ((refine call_givesW (cC) ?_; (try dsimp only); (try simp only [go_sem, reduceCtorEq, Nat.reduceEqDiff, Nat.reduceLT, Nat.reduceLeDiff, Nat.reduceAdd, Nat.reduceMul, Nat.reduceSub, Nat.reduceBEq, ↓reduceIte, g, g', t, s_set, List.length_set, List.length_append, List.length_cons, List.length_nil, List.append_assoc, List.cons_append, List.nil_append, sa_get0, sa_get1, sa_set0, sa_set1])))
                      exact hK (true, f, r3.adv, [a, (⟨pvariable s, s⟩ : Tm)]) _ _ ⟨fun _ => ⟨hS, by simp only [List.length_cons, List.length_nil] at hlen ⊢; omega, by simp⟩, (fun h => by cases h)⟩ ⟨⟨rfl, rfl, rfl, rfl, trivial⟩, Keep.refl _, by simp only [lowF, low, List.length_append, List.length_set, List.length_cons, List.length_nil, Nat.blt_eq, Bool.and_eq_true, and_true]; omega, by simp only [List.length_append, List.length_set, List.length_cons, List.length_nil]; exact low_ext hW (by omega) rfl rfl, by simp only [List.length_append, List.length_set]; exact Nat.le_refl _, Nat.le_refl _⟩ (by simp)
                    | false =>
                      rw [h5, if_neg Bool.false_ne_true] at cC
                      rw [h5, if_neg Bool.false_ne_true] at hS
                      repeat ((refine call_givesW (cC) ?_; (try dsimp only); (try simp only [go_sem, reduceCtorEq, Nat.reduceEqDiff, Nat.reduceLT, Nat.reduceLeDiff, Nat.reduceAdd, Nat.reduceMul, Nat.reduceSub, Nat.reduceBEq, ↓reduceIte, g, g', t, s_set, List.length_set, List.length_append, List.length_cons, List.length_nil, List.append_assoc, List.cons_append, List.nil_append, sa_get0, sa_get1, sa_set0, sa_set1])))
                      exact hK (false, f, r3, [a, (⟨pvariable s, s⟩ : Tm)]) _ _ ⟨(fun h => by cases h), fun _ => hS⟩ ⟨⟨rfl, rfl, rfl, rfl, trivial⟩, Keep.refl _, by simp only [lowF, low, List.length_append, List.length_set, List.length_cons, List.length_nil, Nat.blt_eq, Bool.and_eq_true, and_true]; omega, by simp only [List.length_append, List.length_set, List.length_cons, List.length_nil]; exact low_ext hW (by omega) rfl rfl, by simp only [List.length_append, List.length_set]; exact Nat.le_refl _, Nat.le_refl _⟩ (by simp)
                  · rw [show atX says p [a, c] = [.c (.v (.string says)), .c (.v (.string p)), .c (.v (.int .i64 2)), .c (.v (.bool a.v)), .c (.v (.string a.name)), .c (.v (.bool c.v)), .c (.v (.string c.name)), .c (.v (.bool noT.v)), .c (.v (.string noT.name)), .c (.v (.bool noT.v)), .c (.v (.string noT.name))] from rfl]
                    have w1 : IntKind.i64.wrap ((2 : Int) + 1) = 3 := by decide
                    have ixa : aIndexAddr Tryd.prog 40 (.ptr (A.length + 1) 3) (.c (.v (.int .i64 2))) = some (.ptr (A.length + 1) 7) := ixArr (A.length + 1) 3 (k := 2) (by decide)
                    repeat (first | refine tr_seq_k fun _ _ => ?_ | (refine tr_region ?_; simp only [go_sem, reduceCtorEq, Nat.reduceEqDiff, Nat.reduceLT, Nat.reduceLeDiff, Nat.reduceAdd, Nat.reduceMul, Nat.reduceSub, Nat.reduceBEq, ↓reduceIte, g, g', t, s_set, List.length_set, List.length_append, List.length_cons, List.length_nil, List.append_assoc, List.cons_append, List.nil_append, sa_get0, sa_get1, sa_set0, sa_set1, w1, ixa]) | (refine tr_draw (id := 12) follows 8 [3, 8] [0, 1, 2, 4, 6, 3, 5, 7, 8] (by kernel_rfl) ?_; simp only [go_sem, reduceCtorEq, Nat.reduceEqDiff, Nat.reduceLT, Nat.reduceLeDiff, Nat.reduceAdd, Nat.reduceMul, Nat.reduceSub, Nat.reduceBEq, ↓reduceIte, g, g', t, s_set, List.length_set, List.length_append, List.length_cons, List.length_nil, List.append_assoc, List.cons_append, List.nil_append, sa_get0, sa_get1, sa_set0, sa_set1, w1, ixa]) | (refine call_of (cV) ?_ ?_; (first | rfl | simp only [go_sem, reduceCtorEq, Nat.reduceEqDiff, Nat.reduceLT, Nat.reduceLeDiff, Nat.reduceAdd, Nat.reduceMul, Nat.reduceSub, Nat.reduceBEq, ↓reduceIte, g, g', t, s_set, List.length_set, List.length_append, List.length_cons, List.length_nil, List.append_assoc, List.cons_append, List.nil_append, sa_get0, sa_get1, sa_set0, sa_set1, w1, ixa, shut_col]); simp only [go_sem, reduceCtorEq, Nat.reduceEqDiff, Nat.reduceLT, Nat.reduceLeDiff, Nat.reduceAdd, Nat.reduceMul, Nat.reduceSub, Nat.reduceBEq, ↓reduceIte, g, g', t, s_set, List.length_set, List.length_append, List.length_cons, List.length_nil, List.append_assoc, List.cons_append, List.nil_append, sa_get0, sa_get1, sa_set0, sa_set1, w1, ixa]) | refine k_of (by assumption) ?_)
                    cases h5 : isT L r3 kCom with
                    | true =>
                      rw [h5, if_pos rfl] at cC
                      rw [h5, if_pos rfl] at hS
                      repeat ((refine call_givesW (cC) ?_; (try dsimp only); (try simp only [go_sem, reduceCtorEq, Nat.reduceEqDiff, Nat.reduceLT, Nat.reduceLeDiff, Nat.reduceAdd, Nat.reduceMul, Nat.reduceSub, Nat.reduceBEq, ↓reduceIte, g, g', t, s_set, List.length_set, List.length_append, List.length_cons, List.length_nil, List.append_assoc, List.cons_append, List.nil_append, sa_get0, sa_get1, sa_set0, sa_set1])))
                      exact hK (true, f, r3.adv, [a, c, (⟨pvariable s, s⟩ : Tm)]) _ _ ⟨fun _ => ⟨hS, by simp only [List.length_cons, List.length_nil] at hlen ⊢; omega, by simp⟩, (fun h => by cases h)⟩ ⟨⟨rfl, rfl, rfl, rfl, trivial⟩, Keep.refl _, by simp only [lowF, low, List.length_append, List.length_set, List.length_cons, List.length_nil, Nat.blt_eq, Bool.and_eq_true, and_true]; omega, by simp only [List.length_append, List.length_set, List.length_cons, List.length_nil]; exact low_ext hW (by omega) rfl rfl, by simp only [List.length_append, List.length_set]; exact Nat.le_refl _, Nat.le_refl _⟩ (by simp)
                    | false =>
                      rw [h5, if_neg Bool.false_ne_true] at cC
                      rw [h5, if_neg Bool.false_ne_true] at hS
                      repeat ((refine call_givesW (cC) ?_; (try dsimp only); (try simp only [go_sem, reduceCtorEq, Nat.reduceEqDiff, Nat.reduceLT, Nat.reduceLeDiff, Nat.reduceAdd, Nat.reduceMul, Nat.reduceSub, Nat.reduceBEq, ↓reduceIte, g, g', t, s_set, List.length_set, List.length_append, List.length_cons, List.length_nil, List.append_assoc, List.cons_append, List.nil_append, sa_get0, sa_get1, sa_set0, sa_set1])))
                      exact hK (false, f, r3, [a, c, (⟨pvariable s, s⟩ : Tm)]) _ _ ⟨(fun h => by cases h), fun _ => hS⟩ ⟨⟨rfl, rfl, rfl, rfl, trivial⟩, Keep.refl _, by simp only [lowF, low, List.length_append, List.length_set, List.length_cons, List.length_nil, Nat.blt_eq, Bool.and_eq_true, and_true]; omega, by simp only [List.length_append, List.length_set, List.length_cons, List.length_nil]; exact low_ext hW (by omega) rfl rfl, by simp only [List.length_append, List.length_set]; exact Nat.le_refl _, Nat.le_refl _⟩ (by simp)
                  · rw [show atX says p [a, c, d] = [.c (.v (.string says)), .c (.v (.string p)), .c (.v (.int .i64 3)), .c (.v (.bool a.v)), .c (.v (.string a.name)), .c (.v (.bool c.v)), .c (.v (.string c.name)), .c (.v (.bool d.v)), .c (.v (.string d.name)), .c (.v (.bool noT.v)), .c (.v (.string noT.name))] from rfl]
                    have w1 : IntKind.i64.wrap ((3 : Int) + 1) = 4 := by decide
                    have ixa : aIndexAddr Tryd.prog 40 (.ptr (A.length + 1) 3) (.c (.v (.int .i64 3))) = some (.ptr (A.length + 1) 9) := ixArr (A.length + 1) 3 (k := 3) (by decide)
                    repeat (first | refine tr_seq_k fun _ _ => ?_ | (refine tr_region ?_; simp only [go_sem, reduceCtorEq, Nat.reduceEqDiff, Nat.reduceLT, Nat.reduceLeDiff, Nat.reduceAdd, Nat.reduceMul, Nat.reduceSub, Nat.reduceBEq, ↓reduceIte, g, g', t, s_set, List.length_set, List.length_append, List.length_cons, List.length_nil, List.append_assoc, List.cons_append, List.nil_append, sa_get0, sa_get1, sa_set0, sa_set1, w1, ixa]) | (refine tr_draw (id := 12) follows 8 [3, 8] [0, 1, 2, 4, 6, 3, 5, 7, 8] (by kernel_rfl) ?_; simp only [go_sem, reduceCtorEq, Nat.reduceEqDiff, Nat.reduceLT, Nat.reduceLeDiff, Nat.reduceAdd, Nat.reduceMul, Nat.reduceSub, Nat.reduceBEq, ↓reduceIte, g, g', t, s_set, List.length_set, List.length_append, List.length_cons, List.length_nil, List.append_assoc, List.cons_append, List.nil_append, sa_get0, sa_get1, sa_set0, sa_set1, w1, ixa]) | (refine call_of (cV) ?_ ?_; (first | rfl | simp only [go_sem, reduceCtorEq, Nat.reduceEqDiff, Nat.reduceLT, Nat.reduceLeDiff, Nat.reduceAdd, Nat.reduceMul, Nat.reduceSub, Nat.reduceBEq, ↓reduceIte, g, g', t, s_set, List.length_set, List.length_append, List.length_cons, List.length_nil, List.append_assoc, List.cons_append, List.nil_append, sa_get0, sa_get1, sa_set0, sa_set1, w1, ixa, shut_col]); simp only [go_sem, reduceCtorEq, Nat.reduceEqDiff, Nat.reduceLT, Nat.reduceLeDiff, Nat.reduceAdd, Nat.reduceMul, Nat.reduceSub, Nat.reduceBEq, ↓reduceIte, g, g', t, s_set, List.length_set, List.length_append, List.length_cons, List.length_nil, List.append_assoc, List.cons_append, List.nil_append, sa_get0, sa_get1, sa_set0, sa_set1, w1, ixa]) | refine k_of (by assumption) ?_)
                    cases h5 : isT L r3 kCom with
                    | true =>
                      rw [h5, if_pos rfl] at cC
                      rw [h5, if_pos rfl] at hS
                      repeat ((refine call_givesW (cC) ?_; (try dsimp only); (try simp only [go_sem, reduceCtorEq, Nat.reduceEqDiff, Nat.reduceLT, Nat.reduceLeDiff, Nat.reduceAdd, Nat.reduceMul, Nat.reduceSub, Nat.reduceBEq, ↓reduceIte, g, g', t, s_set, List.length_set, List.length_append, List.length_cons, List.length_nil, List.append_assoc, List.cons_append, List.nil_append, sa_get0, sa_get1, sa_set0, sa_set1])))
                      exact hK (true, f, r3.adv, [a, c, d, (⟨pvariable s, s⟩ : Tm)]) _ _ ⟨fun _ => ⟨hS, by simp only [List.length_cons, List.length_nil] at hlen ⊢; omega, by simp⟩, (fun h => by cases h)⟩ ⟨⟨rfl, rfl, rfl, rfl, trivial⟩, Keep.refl _, by simp only [lowF, low, List.length_append, List.length_set, List.length_cons, List.length_nil, Nat.blt_eq, Bool.and_eq_true, and_true]; omega, by simp only [List.length_append, List.length_set, List.length_cons, List.length_nil]; exact low_ext hW (by omega) rfl rfl, by simp only [List.length_append, List.length_set]; exact Nat.le_refl _, Nat.le_refl _⟩ (by simp)
                    | false =>
                      rw [h5, if_neg Bool.false_ne_true] at cC
                      rw [h5, if_neg Bool.false_ne_true] at hS
                      repeat ((refine call_givesW (cC) ?_; (try dsimp only); (try simp only [go_sem, reduceCtorEq, Nat.reduceEqDiff, Nat.reduceLT, Nat.reduceLeDiff, Nat.reduceAdd, Nat.reduceMul, Nat.reduceSub, Nat.reduceBEq, ↓reduceIte, g, g', t, s_set, List.length_set, List.length_append, List.length_cons, List.length_nil, List.append_assoc, List.cons_append, List.nil_append, sa_get0, sa_get1, sa_set0, sa_set1])))
                      exact hK (false, f, r3, [a, c, d, (⟨pvariable s, s⟩ : Tm)]) _ _ ⟨(fun h => by cases h), fun _ => hS⟩ ⟨⟨rfl, rfl, rfl, rfl, trivial⟩, Keep.refl _, by simp only [lowF, low, List.length_append, List.length_set, List.length_cons, List.length_nil, Nat.blt_eq, Bool.and_eq_true, and_true]; omega, by simp only [List.length_append, List.length_set, List.length_cons, List.length_nil]; exact low_ext hW (by omega) rfl rfl, by simp only [List.length_append, List.length_set]; exact Nat.le_refl _, Nat.le_refl _⟩ (by simp)
                · cases hf
            · cases hf
end Go.Proofs.YtaeehadibckcjaaDoor
namespace Go.Proofs.YtaeehadibckcjaaDoor
open Go.RowKit Go.Vs Go.Vs.Ab
set_option maxRecDepth 100000
set_option maxHeartbeats 4000000
variable {A : List Blk} {hw : List Hw} {b : Nat} {ex : Bool} {L : List Tk} {n : Int}
theorem said_gives (hb : b < A.length) (hL : TkOk L) (r : Rs) (says : ByteArray) : GivesW Tryd.prog 63 [.ptr b 0, sA says] ⟨A.set b (rdB ex L n r), hw⟩ (atA (saidF L n r says).2) ⟨A.set b (rdB ex L n (saidF L n r says).1), hw⟩ := by
  obtain ⟨y, z, h⟩ := said_raw (hw := hw) (ex := ex) (n := n) hb hL r says
  refine h.trim ⟨⟨[y, z], rfl⟩, ⟨[], (List.append_nil _).symm⟩⟩ (fun hl => ?_) (by simp) (Nat.le_refl _) (cut_shut rfl)
  simp only [List.length_set] at hl ⊢
  exact low_re hl rfl
theorem atom_raw (hb : b < A.length) (hL : TkOk L) (r : Rs) : ∃ y : Blk, GivesW Tryd.prog 76 [.ptr b 0] ⟨A.set b (rdB ex L n r), hw⟩ (atA (atomF L n r).2) ⟨A.set b (rdB ex L n (atomF L n r).1) ++ [y], hw⟩ := by
  have c1 := withE (fun A' hb' => next_gives (A := A') (hw := hw) (ex := ex) (n := n) hb' hL r 0 (by omega)) hb [atZ0]
  have c2 := withE (fun A' hb' => must_gives (A := A') (hw := hw) (ex := ex) (n := n) hb' hL.len (nextR L n r 0) kSays) hb [atZ0]
  have c3 := withE (fun A' hb' => said_gives (A := A') (hw := hw) (ex := ex) (n := n) hb' hL (mustT L n (nextR L n r 0) kSays) (nextS L r 0)) hb [atZ0]
  unfold atomF
  generalize saidF L n (mustT L n (nextR L n r 0) kSays) (nextS L r 0) = q at *
  obtain ⟨r3, a⟩ := q
  dsimp only at *
  refine ⟨⟨false, ([.c (.v (.string a.says)), .c (.v (.string a.pred)), .c (.v (.int .i64 a.n)), .c (.v (.bool a.a0.v)), .c (.v (.string a.a0.name)), .c (.v (.bool a.a1.v)), .c (.v (.string a.a1.name)), .c (.v (.bool a.a2.v)), .c (.v (.string a.a2.name)), .c (.v (.bool a.a3.v)), .c (.v (.string a.a3.name))] : List AV)⟩, ?_⟩
  refine givesW_of' Tryd.func76 rfl (by kernel_rfl) Tryd.ntmps76 rfl rfl fun Q hQ => ?_
  repeat (first | refine tr_seq_k fun _ _ => ?_ | (refine tr_region ?_; simp only [go_sem, reduceCtorEq, Nat.reduceEqDiff, Nat.reduceLT, Nat.reduceLeDiff, Nat.reduceAdd, Nat.reduceMul, Nat.reduceSub, Nat.reduceBEq, ↓reduceIte, s_set, List.length_set, List.length_append, List.length_cons, List.length_nil, List.append_assoc, List.cons_append, List.nil_append, sa_get0, sa_get1, sa_set0, sa_set1]) | (refine call_givesW (c1) ?_; (try dsimp only); (try simp only [go_sem, reduceCtorEq, Nat.reduceEqDiff, Nat.reduceLT, Nat.reduceLeDiff, Nat.reduceAdd, Nat.reduceMul, Nat.reduceSub, Nat.reduceBEq, ↓reduceIte, s_set, List.length_set, List.length_append, List.length_cons, List.length_nil, List.append_assoc, List.cons_append, List.nil_append, sa_get0, sa_get1, sa_set0, sa_set1])) | (refine call_givesW (c2) ?_; (try dsimp only); (try simp only [go_sem, reduceCtorEq, Nat.reduceEqDiff, Nat.reduceLT, Nat.reduceLeDiff, Nat.reduceAdd, Nat.reduceMul, Nat.reduceSub, Nat.reduceBEq, ↓reduceIte, s_set, List.length_set, List.length_append, List.length_cons, List.length_nil, List.append_assoc, List.cons_append, List.nil_append, sa_get0, sa_get1, sa_set0, sa_set1])) | (refine call_givesW (c3) ?_; (try dsimp only); (try simp only [go_sem, reduceCtorEq, Nat.reduceEqDiff, Nat.reduceLT, Nat.reduceLeDiff, Nat.reduceAdd, Nat.reduceMul, Nat.reduceSub, Nat.reduceBEq, ↓reduceIte, s_set, List.length_set, List.length_append, List.length_cons, List.length_nil, List.append_assoc, List.cons_append, List.nil_append, sa_get0, sa_get1, sa_set0, sa_set1])) | refine k_of (by assumption) ?_ | (refine tr_ret ?_; try simp only [ex_seq_ret, ex_block_ret]))
  refine (hQ _ _ [.agg [.v (.string a.says), .v (.string a.pred), .v (.int .i64 a.n), .v (.bool a.a0.v), .v (.string a.a0.name), .v (.bool a.a1.v), .v (.string a.a1.name), .v (.bool a.a2.v), .v (.string a.a2.name), .v (.bool a.a3.v), .v (.string a.a3.name)]] ?_ rfl rfl).2 <;> simp only [go_sem, reduceCtorEq, Nat.reduceEqDiff, Nat.reduceLT, Nat.reduceLeDiff, Nat.reduceAdd, Nat.reduceMul, Nat.reduceSub, Nat.reduceBEq, ↓reduceIte, Tryd.f76, s_set, List.length_set, List.length_append, List.length_cons, List.length_nil, List.append_assoc, List.cons_append, List.nil_append, sa_get0, sa_get1, sa_set0, sa_set1]
theorem atom_gives (hb : b < A.length) (hL : TkOk L) (r : Rs) : GivesW Tryd.prog 76 [.ptr b 0] ⟨A.set b (rdB ex L n r), hw⟩ (atA (atomF L n r).2) ⟨A.set b (rdB ex L n (atomF L n r).1), hw⟩ := by
  obtain ⟨y, h⟩ := atom_raw (hw := hw) (ex := ex) (n := n) hb hL r
  refine h.trim ⟨⟨[y], rfl⟩, ⟨[], (List.append_nil _).symm⟩⟩ (fun hl => ?_) (by simp) (Nat.le_refl _) (cut_shut rfl)
  simp only [List.length_set] at hl ⊢
  exact low_re hl rfl
/-! ### bodies -/
theorem bodyL_succ (L : List Tk) (n : Int) (f : Nat) (r : Rs) (out : List Atm) : bodyL L n (f + 1) r out =
    if r.e = 0 then
      if isT L (atomF L n r).1 kCom then bodyL L n f (atomF L n r).1.adv (out ++ [(atomF L n r).2])
      else ((atomF L n r).1, out ++ [(atomF L n r).2])
    else (r, out) := rfl
theorem low_colW {T : Type} (enc : T → List CV) (e : TypeId) (size : Nat) (l : List T) (hw : List Hw) (i : Nat) : low i (hw ++ colH e size l).length (colA enc hw.length l) = true := by
  cases l with
  | nil => rfl
  | cons x l => simp only [colA, colH, low, List.length_append, List.length_singleton, Nat.blt_eq]; omega
theorem appAw (hp : List Blk) (hw : List Hw) (l : List Atm) (a : Atm) (hl : l.length ≤ 10000000) : aAppend Tryd.prog ⟨hp, hw ++ colH 42 11 l⟩ 43 (colA atC hw.length l) (.c (.sl true 1 [.v (.string a.says), .v (.string a.pred), .v (.int .i64 a.n), .v (.bool a.a0.v), .v (.string a.a0.name), .v (.bool a.a1.v), .v (.string a.a1.name), .v (.bool a.a2.v), .v (.string a.a2.name), .v (.bool a.a3.v), .v (.string a.a3.name)])) = some (colA atC hw.length (l ++ [a]), ⟨hp, hw ++ colH 42 11 (l ++ [a])⟩) :=
  app_col (P := Tryd.prog) atC (size := 11) (fun _ => rfl) Tryd.underlying43 info_a (hp := hp) (l := l) (x := a) (ex := true) (Nat.le_trans (show _ ≤ 10000001 by omega) (by decide)) (by omega)
theorem body_raw (hb : b < A.length) (hL : TkOk L) (r : Rs) (hr : r.i ≤ L.length) : GivesW Tryd.prog 64 [.ptr b 0] ⟨A.set b (rdB ex L n r), hw⟩ (colA atC hw.length (bodyF L n r).2) ⟨A.set b (rdB ex L n (bodyF L n r).1), hw ++ colH 42 11 (bodyF L n r).2⟩ := by
  have g := fun x => s_get (A := A) hb x
  have cM := maybe_gives (hw := hw) (ex := ex) (n := n) hb hL.len r kIf
  have hlen := hL.len
  unfold bodyF
  unfold maybeR at cM
  cases h1 : isT L r kIf with
  | false =>
    rw [h1, if_neg Bool.false_ne_true] at cM
    rw [if_neg Bool.false_ne_true]
    refine givesW_of' Tryd.func64 rfl (by kernel_rfl) Tryd.ntmps64 rfl rfl fun Q hQ => ?_
    repeat (first | refine tr_seq_k fun _ _ => ?_ | (refine tr_region ?_; simp only [go_sem, reduceCtorEq, Nat.reduceEqDiff, Nat.reduceLT, Nat.reduceLeDiff, Nat.reduceAdd, Nat.reduceMul, Nat.reduceSub, Nat.reduceBEq, ↓reduceIte]) | (refine call_givesW (cM) ?_; (try dsimp only); (try simp only [go_sem, reduceCtorEq, Nat.reduceEqDiff, Nat.reduceLT, Nat.reduceLeDiff, Nat.reduceAdd, Nat.reduceMul, Nat.reduceSub, Nat.reduceBEq, ↓reduceIte])) | refine k_of (by assumption) ?_)
    refine tr_cond rfl (fun ht => ?_) (fun hf => ?_)
    · repeat (first | refine tr_seq_k fun _ _ => ?_ | (refine tr_region ?_; simp only [go_sem, reduceCtorEq, Nat.reduceEqDiff, Nat.reduceLT, Nat.reduceLeDiff, Nat.reduceAdd, Nat.reduceMul, Nat.reduceSub, Nat.reduceBEq, ↓reduceIte]) | refine k_of (by assumption) ?_ | (refine tr_ret ?_; try simp only [ex_seq_ret, ex_block_ret]))
      refine (hQ _ _ [.c (.sl true 0 [])] ?_ rfl (by simp [colH])).2 <;> simp only [go_sem, reduceCtorEq, Nat.reduceEqDiff, Nat.reduceLT, Nat.reduceLeDiff, Nat.reduceAdd, Nat.reduceMul, Nat.reduceSub, Nat.reduceBEq, ↓reduceIte, Tryd.f64]
    · cases hf
  | true =>
    have hlt := (isT_lt h1).2
    rw [h1, if_pos rfl] at cM
    rw [if_pos rfl]
    obtain ⟨T, hT⟩ : ∃ T, T = bodyL L n (L.length + 1) r.adv [] := ⟨_, rfl⟩
    rw [← hT]
    refine givesW_of' Tryd.func64 rfl (by kernel_rfl) Tryd.ntmps64 rfl rfl fun Q hQ => ?_
    refine tr_low fun hW => ?_
    rw [List.length_set] at hW
    have hWk : ∀ (l : List Atm) (x : Rs), lowB A.length (hw ++ colH 42 11 l).length (A.set b (rdB ex L n x)) = true := fun l x => low_re (lowB_up (Nat.le_refl _) (by rw [List.length_append]; exact Nat.le_add_right _ _) hW) rfl
    repeat (first | refine tr_seq_k fun _ _ => ?_ | (refine tr_region ?_; simp only [go_sem, reduceCtorEq, Nat.reduceEqDiff, Nat.reduceLT, Nat.reduceLeDiff, Nat.reduceAdd, Nat.reduceMul, Nat.reduceSub, Nat.reduceBEq, ↓reduceIte]) | (refine call_givesW (cM) ?_; (try dsimp only); (try simp only [go_sem, reduceCtorEq, Nat.reduceEqDiff, Nat.reduceLT, Nat.reduceLeDiff, Nat.reduceAdd, Nat.reduceMul, Nat.reduceSub, Nat.reduceBEq, ↓reduceIte])) | refine k_of (by assumption) ?_)
    refine tr_cond rfl (fun ht => ?_) (fun hf => ?_)
    · cases ht
    repeat (first | refine tr_seq_k fun _ _ => ?_ | (refine tr_region ?_; simp only [go_sem, reduceCtorEq, Nat.reduceEqDiff, Nat.reduceLT, Nat.reduceLeDiff, Nat.reduceAdd, Nat.reduceMul, Nat.reduceSub, Nat.reduceBEq, ↓reduceIte]) | refine k_of (by assumption) ?_ | refine tr_block ?_ | (refine tr_skip ?_; try simp only [ex_seq, ex_block]))
    refine tr_loop_k (σ := Bool × Nat × Rs × List Atm) (fun q => [(0, .ptr b 0), (3, colA atC hw.length q.2.2.2), (4, bA q.1)]) (fun q => ⟨A.set b (rdB ex L n q.2.2.1), hw ++ colH 42 11 q.2.2.2⟩)
      (fun q => (q.1 = true → bodyL L n q.2.1 q.2.2.1 q.2.2.2 = T ∧ L.length < q.2.1 + q.2.2.1.i ∧ q.2.2.1.i ≤ L.length ∧ q.2.2.2.length + q.2.1 ≤ L.length + 1) ∧ (q.1 = false → (q.2.2.1, q.2.2.2) = T)) (fun q => if q.1 then q.2.1 + 1 else 0) (true, L.length + 1, r.adv, []) ⟨fun _ => ⟨hT.symm, by dsimp only; omega, hlt, by dsimp only [List.length_nil]; omega⟩, (fun h => by cases h)⟩ ⟨rfl, rfl, rfl, trivial⟩ (by simp [colH]) ?_
    rintro ⟨more, f, r2, out⟩ ⟨hI1, hI2⟩ K hK
    dsimp only at hI1 hI2 ⊢
    cases more with
    | false =>
      obtain rfl := hI2 rfl
      repeat (first | refine tr_seq_k fun _ _ => ?_ | (refine tr_region ?_; simp only [go_sem, reduceCtorEq, Nat.reduceEqDiff, Nat.reduceLT, Nat.reduceLeDiff, Nat.reduceAdd, Nat.reduceMul, Nat.reduceSub, Nat.reduceBEq, ↓reduceIte, g]) | refine k_of (by assumption) ?_)
      refine tr_cond rfl (fun ht => ?_) (fun hf => ?_)
      · cases ht
      · repeat (first | refine tr_seq_k fun _ _ => ?_ | (refine tr_region ?_; simp only [go_sem, reduceCtorEq, Nat.reduceEqDiff, Nat.reduceLT, Nat.reduceLeDiff, Nat.reduceAdd, Nat.reduceMul, Nat.reduceSub, Nat.reduceBEq, ↓reduceIte]) | refine k_of (by assumption) ?_ | (refine tr_exit ?_; try simp only [ex_seq_exit, ex_block_exit, Nat.reduceEqDiff, if_true, if_false, ex_seq, ex_block, reduceCtorEq, ↓reduceIte]) | (refine tr_ret ?_; try simp only [ex_seq_ret, ex_block_ret]))
        refine (hQ _ _ [colA atC hw.length out] ?_ rfl rfl).2 <;> simp only [go_sem, reduceCtorEq, Nat.reduceEqDiff, Nat.reduceLT, Nat.reduceLeDiff, Nat.reduceAdd, Nat.reduceMul, Nat.reduceSub, Nat.reduceBEq, ↓reduceIte, Tryd.f64]
    | true =>
      obtain ⟨hS, hf1, hi1, ho1⟩ := hI1 rfl
      obtain ⟨f, rfl⟩ : ∃ f', f = f' + 1 := ⟨f - 1, by omega⟩
      rw [bodyL_succ] at hS
      cases d1 : decide (r2.e = 0) with
      | false =>
        rw [if_neg (of_decide_eq_false d1)] at hS
        obtain rfl := hS
        repeat (first | refine tr_seq_k fun _ _ => ?_ | (refine tr_region ?_; simp only [go_sem, reduceCtorEq, Nat.reduceEqDiff, Nat.reduceLT, Nat.reduceLeDiff, Nat.reduceAdd, Nat.reduceMul, Nat.reduceSub, Nat.reduceBEq, ↓reduceIte, g, d1]) | refine k_of (by assumption) ?_)
        refine tr_cond rfl (fun ht => ?_) (fun hf => ?_)
        · cases ht
        · repeat (first | refine tr_seq_k fun _ _ => ?_ | (refine tr_region ?_; simp only [go_sem, reduceCtorEq, Nat.reduceEqDiff, Nat.reduceLT, Nat.reduceLeDiff, Nat.reduceAdd, Nat.reduceMul, Nat.reduceSub, Nat.reduceBEq, ↓reduceIte]) | refine k_of (by assumption) ?_ | (refine tr_exit ?_; try simp only [ex_seq_exit, ex_block_exit, Nat.reduceEqDiff, if_true, if_false, ex_seq, ex_block, reduceCtorEq, ↓reduceIte]) | (refine tr_ret ?_; try simp only [ex_seq_ret, ex_block_ret]))
          refine (hQ _ _ [colA atC hw.length out] ?_ rfl rfl).2 <;> simp only [go_sem, reduceCtorEq, Nat.reduceEqDiff, Nat.reduceLT, Nat.reduceLeDiff, Nat.reduceAdd, Nat.reduceMul, Nat.reduceSub, Nat.reduceBEq, ↓reduceIte, Tryd.f64]
      | true =>
        rw [if_pos (of_decide_eq_true d1)] at hS
        have cA := atom_gives (hw := hw ++ colH 42 11 out) (ex := ex) (n := n) hb hL r2
        have hai := atom_i (L := L) (n := n) (r := r2)
        generalize atomF L n r2 = q at *
        obtain ⟨r3, a⟩ := q
        dsimp only at *
        have ap := appAw (A.set b (rdB ex L n r3)) hw out a (by omega)
        have b1 := build1A a
        have cC := maybe_gives (hw := hw ++ colH 42 11 (out ++ [a])) (ex := ex) (n := n) hb hL.len r3 kCom
        unfold maybeR at cC
        cases h5 : isT L r3 kCom with
        | true =>
          have hlt3 := (isT_lt h5).2
          rw [h5, if_pos rfl] at cC
          rw [h5, if_pos rfl] at hS
          repeat (first | refine tr_seq_k fun _ _ => ?_ | (refine tr_region ?_; simp only [go_sem, reduceCtorEq, Nat.reduceEqDiff, Nat.reduceLT, Nat.reduceLeDiff, Nat.reduceAdd, Nat.reduceMul, Nat.reduceSub, Nat.reduceBEq, ↓reduceIte, g, d1]) | refine k_of (by assumption) ?_)
          refine tr_cond rfl (fun ht => ?_) (fun hf => ?_)
          · repeat (first | refine tr_seq_k fun _ _ => ?_ | (refine tr_region ?_; simp only [go_sem, reduceCtorEq, Nat.reduceEqDiff, Nat.reduceLT, Nat.reduceLeDiff, Nat.reduceAdd, Nat.reduceMul, Nat.reduceSub, Nat.reduceBEq, ↓reduceIte, g, b1, one_max, ap]) | (refine call_givesW (cA) ?_; (try dsimp only); (try simp only [go_sem, reduceCtorEq, Nat.reduceEqDiff, Nat.reduceLT, Nat.reduceLeDiff, Nat.reduceAdd, Nat.reduceMul, Nat.reduceSub, Nat.reduceBEq, ↓reduceIte, g, b1, one_max, ap])) | (refine call_givesW (cC) ?_; (try dsimp only); (try simp only [go_sem, reduceCtorEq, Nat.reduceEqDiff, Nat.reduceLT, Nat.reduceLeDiff, Nat.reduceAdd, Nat.reduceMul, Nat.reduceSub, Nat.reduceBEq, ↓reduceIte, g, b1, one_max, ap])) | refine k_of (by assumption) ?_ | refine tr_block ?_ | (refine tr_skip ?_; try simp only [ex_seq, ex_block]))
            exact hK (true, f, r3.adv, out ++ [a]) _ _ ⟨fun _ => ⟨hS, by show L.length < f + (r3.i + 1); omega, hlt3, by simp only [List.length_append, List.length_cons, List.length_nil]; omega⟩, (fun h => by cases h)⟩ ⟨⟨rfl, rfl, rfl, trivial⟩, Keep.refl _, by simp only [lowF, low_colW, low_ptr, low_c, List.length_set, Nat.blt_eq, Bool.and_eq_true, and_true]; omega, by simp only [List.length_set]; exact hWk _ _, by simp only [List.length_set]; exact Nat.le_refl _, by simp only [List.length_append, colH, List.length_nil]; omega⟩ (by simp)
          · cases hf
        | false =>
          rw [h5, if_neg Bool.false_ne_true] at cC
          rw [h5, if_neg Bool.false_ne_true] at hS
          repeat (first | refine tr_seq_k fun _ _ => ?_ | (refine tr_region ?_; simp only [go_sem, reduceCtorEq, Nat.reduceEqDiff, Nat.reduceLT, Nat.reduceLeDiff, Nat.reduceAdd, Nat.reduceMul, Nat.reduceSub, Nat.reduceBEq, ↓reduceIte, g, d1]) | refine k_of (by assumption) ?_)
          refine tr_cond rfl (fun ht => ?_) (fun hf => ?_)
          · repeat (first | refine tr_seq_k fun _ _ => ?_ | (refine tr_region ?_; simp only [go_sem, reduceCtorEq, Nat.reduceEqDiff, Nat.reduceLT, Nat.reduceLeDiff, Nat.reduceAdd, Nat.reduceMul, Nat.reduceSub, Nat.reduceBEq, ↓reduceIte, g, b1, one_max, ap]) | (refine call_givesW (cA) ?_; (try dsimp only); (try simp only [go_sem, reduceCtorEq, Nat.reduceEqDiff, Nat.reduceLT, Nat.reduceLeDiff, Nat.reduceAdd, Nat.reduceMul, Nat.reduceSub, Nat.reduceBEq, ↓reduceIte, g, b1, one_max, ap])) | (refine call_givesW (cC) ?_; (try dsimp only); (try simp only [go_sem, reduceCtorEq, Nat.reduceEqDiff, Nat.reduceLT, Nat.reduceLeDiff, Nat.reduceAdd, Nat.reduceMul, Nat.reduceSub, Nat.reduceBEq, ↓reduceIte, g, b1, one_max, ap])) | refine k_of (by assumption) ?_ | refine tr_block ?_ | (refine tr_skip ?_; try simp only [ex_seq, ex_block]))
            exact hK (false, f, r3, out ++ [a]) _ _ ⟨(fun h => by cases h), fun _ => hS⟩ ⟨⟨rfl, rfl, rfl, trivial⟩, Keep.refl _, by simp only [lowF, low_colW, low_ptr, low_c, List.length_set, Nat.blt_eq, Bool.and_eq_true, and_true]; omega, by simp only [List.length_set]; exact hWk _ _, by simp only [List.length_set]; exact Nat.le_refl _, by simp only [List.length_append, colH, List.length_nil]; omega⟩ (by simp)
          · cases hf
theorem body_gives (hb : b < A.length) (hL : TkOk L) (r : Rs) (hr : r.i ≤ L.length) : GivesW Tryd.prog 64 [.ptr b 0] ⟨A.set b (rdB ex L n r), hw⟩ (slT (bodyF L n r).2.isEmpty (bodyF L n r).2) ⟨A.set b (rdB ex L n (bodyF L n r).1), hw⟩ := by
  have h := body_raw (hw := hw) (ex := ex) (n := n) hb hL r hr
  refine h.trim ⟨⟨[], (List.append_nil _).symm⟩, ⟨_, rfl⟩⟩ (fun hl => ?_) (by simp) (Nat.le_refl _) (cut_shut (shut_col _ _ _))
  simp only [List.length_set] at hl ⊢
  exact low_re hl rfl
end Go.Proofs.YtaeehadibckcjaaDoor
namespace Go.Vs.Ab
open Go.RowKit
variable {P : Program} {X : Mem} {W0 w w' : World} {m : Mm}
inductive OT where
  | fin
  | stop
  | one (i : Nat) (t : OT)
  | br (i : Nat) (t more : OT)
def OT.heads : OT → List Nat
  | .br i _ more => i :: more.heads
  | _ => []
def chkT (md : Region.Mode) (ops : Array Oper) : OT → Bool → Nat → Array Bool → Bool
  | .fin, false, 0, listed => (Region.ready md ops listed).isEmpty
  | .one i t, false, n + 1, listed => (Region.ready md ops listed).contains i && Region.free md ops listed i && chkT md ops t false n (listed.setIfInBounds i true)
  | .br i t more, false, n + 1, listed => (Region.ready md ops listed == i :: more.heads) && (chkT md ops t false n (listed.setIfInBounds i true) && chkT md ops more true (n + 1) listed)
  | .br i t more, true, n + 1, listed => chkT md ops t false n (listed.setIfInBounds i true) && chkT md ops more true (n + 1) listed
  | .stop, true, _, _ => true
  | _, _, _, _ => false
def treeB (l : List Oper) (t : OT) : Bool := Region.noSelect l.toArray && chkT .any l.toArray t false l.length (Array.replicate l.length false)
end Go.Vs.Ab
namespace Go.Vs.Ab
open Go.RowKit
variable {P : Program} {X : Mem} {W0 w w' : World} {m : Mm} {nt : Nat}
/-! ### an operation reads its operands' slots alone -/
/-! ### whatever the order -/
def isApp : Op → Bool
  | .call c => match c.callee with
    | .builtin .append => true
    | _ => false
  | _ => false
def AppE (nt : Nat) (fr : Fr) (m : Mm) (dst : Option Tmp) (K : Fr → Prop) : Option Ev → Prop
  | some (.loud (.own _ n cs) m1) => (m1.hp = m.hp ∧ m1.hw.take m.hw.length = m.hw) ∧ PutW nt fr dst (.c (.sl false n cs)) K
  | _ => False
def AppW (P : Program) (nt : Nat) (ops : Array Oper) (o : Oper) (fr : Fr) (m : Mm) (b : Option Bool) (K : Fr → Prop) : Prop :=
  match b with
  | none => False
  | some false => PutW nt fr o.dst (.tup []) K
  | some true => AppE nt fr m o.dst K (evOp P fr m o)
theorem appW_true {ops : Array Oper} {o : Oper} {fr : Fr} {K : Fr → Prop} : AppW P nt ops o fr m (some true) K = AppE nt fr m o.dst K (evOp P fr m o) := rfl
theorem appW_false {ops : Array Oper} {o : Oper} {fr : Fr} {K : Fr → Prop} : AppW P nt ops o fr m (some false) K = PutW nt fr o.dst (.tup []) K := rfl
theorem appE_own {fr : Fr} {dst : Option Tmp} {K : Fr → Prop} {k n : Nat} {cs : List CV} {m1 : Mm} : AppE nt fr m dst K (some (.loud (.own k n cs) m1)) = ((m1.hp = m.hp ∧ m1.hw.take m.hw.length = m.hw) ∧ PutW nt fr dst (.c (.sl false n cs)) K) := rfl
@[congr] theorem appW_congr {ops : Array Oper} {o : Oper} {fr : Fr} {b b' : Option Bool} {K : Fr → Prop} (h : b = b') : AppW P nt ops o fr m b K = AppW P nt ops o fr m b' K := by rw [h]
@[congr] theorem appE_congr {fr : Fr} {dst : Option Tmp} {K : Fr → Prop} {e e' : Option Ev} (h : e = e') : AppE nt fr m dst K e = AppE nt fr m dst K e' := by rw [h]
def SeqM (P : Program) (nt : Nat) (ops : Array Oper) : List Oper → Fr → Mm → (Fr → Mm → Prop) → Prop
  | [], fr, m, Q => Q fr m
  | o :: r, fr, m, Q => if isApp o.op then AppW P nt ops o fr m (aWanted ops fr o) fun fr' => SeqM P nt ops r fr' m Q else StepW P nt ops o fr m fun kd fr' m' => (True ∧ m' = m) ∧ SeqM P nt ops r fr' m' Q
/-! ### what a world lets a value lead to -/
theorem lows_of {i j : Nat} : ∀ {cs : List AV}, (∀ (k : Nat) (c : AV), cs[k]? = some c → low i j c = true) → lows i j cs = true
  | [], _ => rfl
  | c :: r, h => by
    simp only [lows, Bool.and_eq_true]
    exact ⟨h 0 c rfl, lows_of fun k d hd => h (k + 1) d (by simpa using hd)⟩
theorem Rep.low {A B : Nat} (hl : ∀ i β, X.loc i = some β → i < A) (ho : ∀ k T, X.own k = some T → k < B) {c : AV} {x : Value} (h : Rep X c x) : Ab.low A B c = true := by
  have key : ∀ {vs : List AV} {xs : List Value}, vs.length = xs.length → (∀ (i : Nat) (c : AV) (x : Value), vs[i]? = some c → xs[i]? = some x → Ab.low A B c = true) → lows A B vs = true := fun {vs xs} hlen ih => lows_of fun k c hc => by
    have hk := (List.getElem?_eq_some_iff.1 hc).1
    exact ih k c _ hc (List.getElem?_eq_getElem (by rw [← hlen]; exact hk))
  induction h with
  | c h => rfl
  | agg h => rfl
  | tup hl' _ ih => simp only [Ab.low]; exact key hl' ih
  | own h hn hc hx ht =>
    obtain ⟨T, h1, _⟩ := ht
    simp only [Ab.low, Nat.blt_eq]
    exact ho _ T h1
  | ptr h => simp only [Ab.low, Nat.blt_eq]; exact hl _ _ h
  | cptr h hx => rfl
  | fn h1 _ h3 _ ih1 ih2 => simp only [Ab.low, Bool.and_eq_true]; exact ⟨key h1 ih1, key h3 ih2⟩
  | lsl h _ _ _ _ => simp only [Ab.low, Nat.blt_eq]; exact hl _ _ h
  | mapp h => simp only [Ab.low, Nat.blt_eq]; exact hl _ _ h
  | ifc _ ih => simp only [Ab.low]; exact ih
  | strc hl' _ _ ih => simp only [Ab.low]; exact key hl' ih
theorem MR.lowB (M : MR X W0 m w) : Ab.lowB m.hp.length m.hw.length m.hp = true := by
  have key : ∀ l : List Blk, (∀ b ∈ l, lows m.hp.length m.hw.length b.cs = true) → Ab.lowB m.hp.length m.hw.length l = true := fun l => by
    induction l with
    | nil => intro _; rfl
    | cons b l ih =>
      intro h
      simp only [Ab.lowB, Bool.and_eq_true]
      exact ⟨h b (by simp), ih fun c hc => h c (by simp [hc])⟩
  refine key _ fun b hb => ?_
  obtain ⟨i, hi, rfl⟩ := List.mem_iff_getElem.1 hb
  obtain ⟨β, _, _, _, hB⟩ := M.locs i m.hp[i] (List.getElem?_eq_getElem hi)
  cases hB with
  | dead h => rw [h]; rfl
  | ent h _ _ _ _ => rw [h]; rfl
  | byt h => rw [h]; rfl
  | bld h _ hv _ _ =>
    rw [h]
    simp only [lows, Ab.low, Bool.and_true]
    exact Rep.low (fun i β h => M.ldom i β h) (fun k T h => M.odom k T h) hv
  | cells _ _ hr _ _ =>
    refine lows_of fun k c hc => ?_
    have hk := (List.getElem?_eq_some_iff.1 hc).1
    have hlen := hr.1
    exact Rep.low (fun i β h => M.ldom i β h) (fun k T h => M.odom k T h) (hr.2 k c _ hc (List.getElem?_eq_getElem (by rw [← hlen]; exact hk)))
section
variable {l : List Oper} {A : List Nat}
end
@[congr] theorem seqM_congr {ops : Array Oper} {l : List Oper} {fr fr' : Fr} {m m' : Mm} {Q : Fr → Mm → Prop} (h : fr = fr') (hm : m = m') : SeqM P nt ops l fr m Q = SeqM P nt ops l fr' m' Q := by rw [h, hm]
attribute [go_sem] SeqM isStore isApp appW_true appW_false appE_own
end Go.Vs.Ab
namespace Go.Vs.Ab
open Go.RowKit
variable {P : Program} {X : Mem} {W0 w w' : World} {m : Mm} {nt : Nat} {md : Region.Mode} {ops : Array Oper} {Q : Exit → Act → World → Prop} {S : World → Prop}
/-! ### the end -/
inductive TI where
  | op (i : Nat)
  | put (i : Nat)
structure Put3 where
  t : TypeId
  x : Nat
  k : Operand
  v : Nat
  d : Nat
  e : Nat
def put3 (nt : Nat) (o1 o2 o3 : Oper) : Option Put3 :=
  match o1.op, o2.op, o3.op, o1.dst, o2.dst, o1.guard, o2.guard, o3.guard with
  | .mapEntry t (.tmp x) k, .extract (.tmp d1) 1, .entryStore t' (.tmp x') (.tmp e1) (.tmp v), some d, some e, none, none, none =>
    if Nat.beq d d1 && (Nat.beq e e1 && (Nat.beq t t' && (Nat.beq x x' && (!Nat.beq x d && (!Nat.beq x e && (!Nat.beq v d && (!Nat.beq v e && (Nat.blt d nt && Nat.blt e nt)))))))) && o3.dst.isNone then some ⟨t, x, k, v, d, e⟩ else none
  | _, _, _, _, _, _, _, _ => none
def aPut3 (P : Program) (fr : Fr) (m : Mm) (t : TypeId) (x : Option AV) (k v : Option Value) : Option Mm :=
  match x, k, v with
  | some p, some a, some b => aMapPutE P m t p a b
  | _, _, _ => none
def PutM (K : Mm → Prop) : Option Mm → Prop
  | some m' => K m'
  | none => False
def PutW3 (P : Program) (fr : Fr) (m : Mm) (K : Mm → Prop) : Option Put3 → Prop
  | some p => find fr p.d = none ∧ find fr p.e = none ∧ PutM K (aPut3 P fr m p.t (find fr p.x) (opdV fr p.k) (opdV fr (.tmp p.v)))
  | none => False
def TailW (P : Program) (nt : Nat) (ops : Array Oper) : List TI → Fr → Mm → (Fr → Mm → Prop) → Prop
  | [], fr, m, Q => Q fr m
  | .op i :: r, fr, m, Q => match ops[i]? with
    | none => False
    | some o => StepW P nt ops o fr m fun _ fr' m' => TailW P nt ops r fr' m' Q
  | .put i :: r, fr, m, Q => match ops[i]?, ops[i + 1]?, ops[i + 2]? with
    | some o1, some o2, some o3 => PutW3 P fr m (fun m' => TailW P nt ops r fr m' Q) (put3 nt o1 o2 o3)
    | _, _, _ => False
/-! ### the region -/
attribute [go_sem] TailW put3 aPut3 PutM PutW3 aMapPutE Option.isNone_none
end Go.Vs.Ab
namespace Go.Vs.Ab
open Go.RowKit
variable {P : Program} {X : Mem} {W0 w w' : World} {m : Mm}
def pureA (P : Program) (fr : Fr) (o : Oper) : Option AV :=
  match o.op with
  | .move x => opd fr x
  | .assign x => opd fr x
  | .pick c a b => match opd fr c with
    | some (.c (.v (.bool t))) => match t with
      | true => opd fr a
      | false => opd fr b
    | _ => none
  | .binOp op t x y _ => match opdV fr x, opdV fr y with
    | some a, some b => av1 (pureVal P (do eqGuard op t x y a b; binOp op t a b))
    | _, _ => none
  | .unOp op _ x => match opdV fr x with
    | some a => av1 (pureVal P (Op.unary op a))
    | none => none
  | .extract x i => match opd fr x with
    | some (.tup vs) => vs[i]?
    | _ => none
  | .nilCheck x => match opd fr x with
    | some (.ptr b off) => some (.ptr b off)
    | _ => none
  | .fieldAddr s x f => match opd fr x with
    | some (.ptr b off) => aFieldAddr P s f (.ptr b off)
    | _ => none
  | .indexAddr t x ix => match opd fr x, opd fr ix with
    | some (.lsl b lo n k), some i => aIndexL P t (.lsl b lo n k) i
    | _, _ => none
  | _ => none
theorem aIndexL_ptr {t : TypeId} {b lo n k : Nat} {i c : AV} (h : aIndexL P t (.lsl b lo n k) i = some c) : ∃ off kk ii, c = .ptr b off ∧ i = .c (.v (.int kk ii)) := by
  unfold aIndexL at h
  split at h
  · rename_i e b' lo' n' k' i' ht hl hi
    injection hl with hl
    injection hl with hl _
    subst hl
    have hint : ∃ kk ii, i = .c (.v (.int kk ii)) := by
      unfold intV at hi
      split at hi
      · exact ⟨_, _, rfl⟩
      · cases hi
    obtain ⟨kk, ii, rfl⟩ := hint
    split at h
    · split at h
      · injection h with h
        exact ⟨_, kk, ii, h.symm, rfl⟩
      · cases h
    · cases h
  · cases h
theorem av1_all {s : Sem Value} {c : AV} (h : av1 (pureVal P s) = some c) : ∃ V, Rep X c V ∧ ∀ w, s.run P w = .ok V w := by
  unfold av1 at h
  cases hp : pureVal P s with
  | none => rw [hp] at h; cases h
  | some v =>
    rw [hp] at h
    exact ⟨v, avOf1_rep h, fun w => pureVal_run hp w⟩
theorem pureA_ok {nt : Nat} {fr : Fr} {a : Act} {o : Oper} {c : AV} (F : FR X nt fr a) (h : pureA P fr o = some c) : ∃ V, Rep X c V ∧ ∀ w, (execOp a.eval o).run P w = .ok (.value V) w := by
  unfold pureA at h
  split at h
  · rename_i x hx
    exact ⟨_, opd_rep F h, fun w => by simp only [execOp, hx, Sem.run_pure]⟩
  · rename_i x hx
    exact ⟨_, opd_rep F h, fun w => by simp only [execOp, hx, Sem.run_pure]⟩
  · rename_i x y z hx
    split at h
    · rename_i t ht
      have hb : a.eval x = .bool t := val_rep rfl (opd_rep F ht)
      cases t with
      | true => exact ⟨_, opd_rep F h, fun w' => by simp [execOp, hx, hb, asBool]⟩
      | false => exact ⟨_, opd_rep F h, fun w' => by simp [execOp, hx, hb, asBool]⟩
    · cases h
  · rename_i op t x y yt hx
    split at h
    · rename_i u v h1 h2
      obtain ⟨V, g1, g2⟩ := av1_all (X := X) h
      refine ⟨V, g1, fun w => ?_⟩
      simp only [execOp, hx]
      rw [opdV_eq F h1, opdV_eq F h2, Sem.run_bind, g2 w]
      rfl
    · cases h
  · rename_i op t x hx
    split at h
    · rename_i u h1
      obtain ⟨V, g1, g2⟩ := av1_all (X := X) h
      refine ⟨V, g1, fun w => ?_⟩
      simp only [execOp, hx]
      rw [opdV_eq F h1, Sem.run_bind, g2 w]
      rfl
    · cases h
  · rename_i x i hx
    split at h
    · rename_i vs hv
      have hr := opd_rep F hv
      generalize hV : a.eval x = V at hr
      cases hr with
      | tup hl hh =>
        rename_i xs
        have hi := (List.getElem?_eq_some_iff.1 h).1
        have hi2 : i < xs.toList.length := by rw [← hl]; exact hi
        have hx2 : xs.toList[i]? = some xs.toList[i] := List.getElem?_eq_getElem hi2
        refine ⟨xs.toList[i], hh i c _ h hx2, fun w => ?_⟩
        have hx3 : xs[i]? = some xs.toList[i] := by simp
        simp [execOp, hx, hV, Instr.extract, hx3]
    · cases h
  · rename_i x hx
    split at h
    · rename_i b off hc
      have hr := opd_rep F hc
      injection h with h
      subst h
      generalize hV : a.eval x = V at hr
      refine ⟨V, hr, fun w => ?_⟩
      cases hr with
      | ptr hb => simp only [execOp, hx, hV, Sem.run_pure]
    · cases h
  · rename_i s x f hx
    split at h
    · rename_i b off hc
      have hr := opd_rep F hc
      generalize hV : a.eval x = V at hr
      unfold aFieldAddr at h
      split at h
      · rename_i fs h1
        split at h
        · rename_i fd h2
          split at h
          · rename_i i h3
            have q0 := tsz_spec h3
            clear h3
            obtain ⟨i, h3, rfl⟩ := q0
            split at h
            · cases h
            · rename_i h4
              have h4 : i.size ≠ 0 := by simpa using h4
              simp only [Option.some.injEq] at h
              subst h
              cases hr with
              | ptr hb =>
                refine ⟨_, .ptr hb, fun w => ?_⟩
                have := run_fieldAt h1 h2 h3 h4
                simp only [execOp, hx, hV, Sem.run_bind, this, Result.andThen_ok, Sem.run_pure]
          · cases h
        · cases h
      · cases h
    · cases h
  · rename_i t x ix hx
    split at h
    · rename_i b lo n k i h1 h2
      obtain ⟨off, kk, ii, rfl, rfl⟩ := aIndexL_ptr h
      have r1 := opd_rep F h1
      have r2 := opd_rep F h2
      generalize hV : a.eval x = V at r1
      generalize hI : a.eval ix = I at r2
      obtain rfl : I = .int kk ii := by
        cases r2 with
        | c r => cases r with
          | v r => rfl
      cases r1 with
      | lsl q1 q2 q3 q4 q5 =>
        rename_i β o cap
        refine ⟨_, .ptr q1, fun w => ?_⟩
        obtain ⟨V', g1, g2⟩ := aIndexL_ok (X := (⟨fun _ _ => none, X.loc, X.own, X.room⟩ : Mem)) (w := w) h (.lsl q1 q2 q3 q4 q5) (.c (.v rfl))
        cases g1 with
        | ptr hb =>
          have hb : X.loc b = some _ := hb
          rw [q1] at hb
          injection hb with hb
          subst hb
          have := g2 w ⟨fun _ _ _ h => (by cases h), fun _ _ _ => rfl⟩
          simp [execOp, hx, hV, hI, this]
    · cases h
  · cases h
def PureW (P : Program) (nt : Nat) (ops : Array Oper) (fr : Fr) (o : Oper) (K : Fr → Prop) : Prop :=
  match aWanted ops fr o with
  | some false => PutW nt fr o.dst (.tup []) K
  | some true => match pureA P fr o with
    | some c => PutW nt fr o.dst c K
    | none => False
  | none => False
theorem pureW_ok {nt : Nat} {fr : Fr} {a : Act} {ops : Array Oper} {o : Oper} {K : Fr → Prop} (F : FR X nt fr a) (h : PureW P nt ops fr o K) : ∃ V fr', Yields P ops o V a ∧ FR X nt fr' (a.put o.dst V) ∧ K fr' := by
  unfold PureW at h
  split at h
  · rename_i hw
    obtain ⟨fr', h1, h2⟩ := putW_ok F h rep_undef
    exact ⟨undef, fr', Or.inr ⟨aWanted_ok F hw, rfl⟩, h1, h2⟩
  · rename_i hw
    split at h
    · rename_i c hc
      obtain ⟨V, g1, g2⟩ := pureA_ok F hc
      obtain ⟨fr', h1, h2⟩ := putW_ok F h g1
      exact ⟨V, fr', Or.inl ⟨aWanted_ok F hw, g2⟩, h1, h2⟩
    · exact h.elim
  · exact h.elim
def OrdX (P : Program) (nt : Nat) (ops : Array Oper) : OT → Fr → Mm → (Fr → Mm → Prop) → Prop
  | .fin, fr, m, Q => Q fr m
  | .stop, _, _, _ => True
  | .one i t, fr, m, Q => match ops[i]? with
    | none => False
    | some o => PureW P nt ops fr o fun fr' => OrdX P nt ops t fr' m Q
  | .br i t more, fr, m, Q => (match ops[i]? with
    | none => False
    | some o => StepW P nt ops o fr m fun _ fr' m' => OrdX P nt ops t fr' m' Q) ∧ OrdX P nt ops more fr m Q
theorem ordX_wp {md : Region.Mode} {nt : Nat} {ops : Array Oper} {Q : Exit → Act → World → Prop} {R : Fr → Mm → Prop} (hsel : Region.noSelect ops = true) :
    ∀ (t : OT), (∀ {n : Nat} {listed : Array Bool} {X : Mem} {w : World} {m : Mm} {fr : Fr} {a : Act}, chkT md ops t false n listed = true → FR X nt fr a → MR X W0 m w →
      OrdX P nt ops t fr m R → (∀ fr' m' a' w' X', R fr' m' → X.Le W0.heap.size X' → FR X' nt fr' a' → MR X' W0 m' w' → Q .normal a' w') → wpAny P md ops (NoP Q) n listed a w) ∧
    (∀ {n : Nat} {listed : Array Bool} {X : Mem} {w : World} {m : Mm} {fr : Fr} {a : Act}, chkT md ops t true (n + 1) listed = true → FR X nt fr a → MR X W0 m w →
      OrdX P nt ops t fr m R → (∀ fr' m' a' w' X', R fr' m' → X.Le W0.heap.size X' → FR X' nt fr' a' → MR X' W0 m' w' → Q .normal a' w') →
      ∀ j ∈ t.heads, wpOp P ops (NoP Q) j (fun a' w' => wpAny P md ops (NoP Q) n (listed.setIfInBounds j true) a' w') a w)
  | .fin => by
    refine ⟨fun {n listed X w m fr a} hB F M h hQ => ?_, fun hB => by simp [chkT] at hB⟩
    cases n with
    | zero => exact ⟨by simpa [chkT] using hB, hQ _ _ _ _ X h (Mem.Le.refl _ _) F M⟩
    | succ n => simp [chkT] at hB
  | .stop => by
    refine ⟨fun {n listed X w m fr a} hB => ?_, fun _ _ _ _ _ j hj => by cases hj⟩
    cases n <;> simp [chkT] at hB
  | .one i t => by
    refine ⟨fun {n listed X w m fr a} hB F M h hQ => ?_, fun hB => by simp [chkT] at hB⟩
    cases n with
    | zero => simp [chkT] at hB
    | succ n =>
      simp only [chkT, Bool.and_eq_true] at hB
      obtain ⟨⟨hk1, hk2⟩, hB'⟩ := hB
      have hk1 : i ∈ Region.ready md ops listed := by simpa using hk1
      unfold OrdX at h
      split at h
      · exact h.elim
      · rename_i o ho
        obtain ⟨V, fr', g1, g2, g3⟩ := pureW_ok (ops := ops) F h
        have hnext := (ordX_wp hsel t).1 hB' g2 M g3 hQ
        exact wpAny_first ho (Region.noSelect_spec hsel) (fun _ _ _ h => h.elim) n listed a w (Region.free_spec ho hk2) hk1 g1 hnext
  | .br i t more => by
    have chain : ∀ {n : Nat} {listed : Array Bool} {X : Mem} {w : World} {m : Mm} {fr : Fr} {a : Act}, chkT md ops t false n (listed.setIfInBounds i true) = true → chkT md ops more true (n + 1) listed = true → FR X nt fr a → MR X W0 m w →
        OrdX P nt ops (.br i t more) fr m R → (∀ fr' m' a' w' X', R fr' m' → X.Le W0.heap.size X' → FR X' nt fr' a' → MR X' W0 m' w' → Q .normal a' w') →
        ∀ j ∈ (OT.br i t more).heads, wpOp P ops (NoP Q) j (fun a' w' => wpAny P md ops (NoP Q) n (listed.setIfInBounds j true) a' w') a w := fun {n listed X w m fr a} hB1 hB2 F M h hQ j hj => by
      have hj2 : j = i ∨ j ∈ more.heads := by simpa [OT.heads] using hj
      unfold OrdX at h
      rcases hj2 with rfl | hj2
      · have h := h.1
        split at h
        · exact h.elim
        · rename_i o ho
          refine stepW_wp ho F M h fun kd fr' m' a' w' X' k0 k1 k2 k3 k4 => ?_
          exact (ordX_wp hsel t).1 hB1 k2 k3 k0 fun fr2 m2 a2 w2 X2 l0 l1 l2 l3 => hQ fr2 m2 a2 w2 X2 l0 (k1.trans l1) l2 l3
      · exact (ordX_wp hsel more).2 hB2 F M h.2 hQ j hj2
    refine ⟨fun {n listed X w m fr a} hB F M h hQ => ?_, fun {n listed X w m fr a} hB F M h hQ => ?_⟩
    · cases n with
      | zero => simp [chkT] at hB
      | succ n =>
        simp only [chkT, Bool.and_eq_true, beq_iff_eq] at hB
        obtain ⟨hready, hB1, hB2⟩ := hB
        have hh : Region.ready md ops listed = (OT.br i t more).heads := hready
        refine ⟨fun e => (by rw [hready] at e; cases e), fun j hj => ?_⟩
        exact chain hB1 hB2 F M h hQ j (by rw [← hh]; exact hj)
    · simp only [chkT, Bool.and_eq_true] at hB
      exact chain hB.1 hB.2 F M h hQ
theorem tr_drawX {R : MRel} [hR : RelOk R] {nt : Nat} {fr : Fr} {Q : Ex → Fr → Mm → Prop} (hm : P.follows .mixedOrders = true) {id : Nat} {l : List Oper} (t : OT) (hB : treeB l t = true) (frC : Fr) (mC : Mm)
    (h : OrdX P nt l.toArray t fr m (fun fr' m' => SubF frC fr' ∧ m' = mC)) (hQ : Q .nrm frC mC) : Tr R P nt (.region id l.toArray true) fr m Q := fun X W0 w ac F M => by
  unfold treeB at hB
  simp only [Bool.and_eq_true] at hB
  obtain ⟨hsel, hB⟩ := hB
  refine wp_mono (wp_region_any (Q := NoP fun e a' w' => ∃ ex fr' m' X', e = Ex.out ex ∧ Q ex fr' m' ∧ R W0.heap.size X X' ∧ FR X' nt fr' a' ∧ MR X' W0 m' w') hm ?_) NoP.le
  have := (ordX_wp (P := P) (W0 := W0) (md := .any) (nt := nt) (ops := l.toArray) (Q := fun e a' w' => ∃ ex fr' m' X', e = Ex.out ex ∧ Q ex fr' m' ∧ R W0.heap.size X X' ∧ FR X' nt fr' a' ∧ MR X' W0 m' w') hsel t).1 (n := l.length) (listed := Array.replicate l.length false)
    hB F M.drew h (fun fr' m' a' w' X' k0 k1 k2 k3 => ⟨.nrm, frC, mC, X', rfl, hQ, hR.of k1, k2.weak k0.1.spec, by rw [← k0.2]; exact k3⟩)
  simpa using this
attribute [go_sem] OrdX PureW pureA
end Go.Vs.Ab
namespace Go.Proofs.YtaeehadibckcjaaDoor
open Go.RowKit Go.Vs Go.Vs.Ab
set_option maxRecDepth 100000
set_option maxHeartbeats 4000000
variable {A : List Blk} {hw : List Hw} {b : Nat} {ex : Bool} {L : List Tk} {n : Int}
theorem clearL_succ (L : List Tk) (n : Int) (f : Nat) (r : Rs) (out : List ByteArray) : clearL L n (f + 1) r out =
    if r.e = 0 then
      if isT L (nextR L n r 0) kCom then clearL L n f (nextR L n r 0).adv (out ++ [nextS L r 0])
      else (nextR L n r 0, out ++ [nextS L r 0])
    else (r, out) := rfl
theorem clean_col {T : Type} (enc : T → List CV) (k : Nat) (l : List T) : clean (colA enc k l) = some (.sl l.isEmpty l.length (l.flatMap enc)) := by
  cases l <;> rfl
theorem avCells_col {T : Type} (enc : T → List CV) (k : Nat) (l : List T) : avCells (colA enc k l) = some [colA enc k l] := by
  cases l <;> rfl
theorem appSw (hp : List Blk) (hw : List Hw) (l : List ByteArray) (a : ByteArray) (hl : l.length ≤ 10000000) : aAppend Tryd.prog ⟨hp, hw ++ colH 9 1 l⟩ 23 (colA stC hw.length l) (.c (.sl true 1 [.v (.string a)])) = some (colA stC hw.length (l ++ [a]), ⟨hp, hw ++ colH 9 1 (l ++ [a])⟩) :=
  app_col (P := Tryd.prog) stC (size := 1) (fun _ => rfl) Tryd.underlying23 info_s (hp := hp) (l := l) (x := a) (ex := true) (Nat.le_trans (show _ ≤ 10000001 by omega) (by decide)) (by omega)
def otClr : OT := .one 0 (.one 2 (.br 1 (.br 3 (.br 4 (.br 5 (.one 6 (.br 7 (.fin) (.stop))) (.stop)) (.stop)) (.stop)) (.br 3 (.br 1 (.br 4 (.br 5 (.one 6 (.br 7 (.fin) (.stop))) (.stop)) (.stop)) (.br 4 (.br 1 (.br 5 (.one 6 (.br 7 (.fin) (.stop))) (.stop)) (.stop)) (.stop))) (.stop))))
abbrev clB0 : Blk := ⟨false, [sA ⟨#[]⟩, .c (.sl true 0 [])]⟩
theorem clear_raw (hb : b < A.length) (hL : TkOk L) (r : Rs) (hr : r.i ≤ L.length) : ∃ y z : Blk, GivesW Tryd.prog 33 [.ptr b 0] ⟨A.set b (rdB ex L n r), hw⟩ (.agg [.v (.string (clearF L n r).2.1), .sl (clearF L n r).2.2.isEmpty (clearF L n r).2.2.length ((clearF L n r).2.2.flatMap stC)]) ⟨A.set b (rdB ex L n (clearF L n r).1) ++ [y, z], hw ++ colH 9 1 (clearF L n r).2.2⟩ := by
  have g := fun (E : List Blk) x => sa_get (A := A) (E := E) hb x
  have g' := fun x => s_get (A := A) hb x
  have c1 := withE (fun A' hb' => next_gives (A := A') (hw := hw) (ex := ex) (n := n) hb' hL r 0 (by omega)) hb [clB0]
  have hi1 := next_i (L := L) (n := n) (r := r) (s := 0)
  have hi2 := must_i (L := L) (n := n) (r := nextR L n r 0) (s := kCol)
  have hlen := hL.len
  unfold clearF
  dsimp only
  generalize nextS L r 0 = who at *
  have c2 := withE (fun A' hb' => must_gives (A := A') (hw := hw) (ex := ex) (n := n) hb' hL.len (nextR L n r 0) kCol) hb [clB0, ⟨false, [sA who, .c (.sl true 0 [])]⟩]
  generalize nextR L n r 0 = r1 at *
  generalize mustT L n r1 kCol = r0 at *
  obtain ⟨T, hT⟩ : ∃ T, T = clearL L n (L.length + 1) r0 [] := ⟨_, rfl⟩
  rw [← hT]
  refine ⟨⟨false, [sA who, .c (.sl T.2.isEmpty T.2.length (T.2.flatMap stC))]⟩, ⟨false, [sA who, colA stC hw.length T.2]⟩, ?_⟩
  refine givesW_of' Tryd.func33 rfl (by kernel_rfl) Tryd.ntmps33 rfl rfl fun Q hQ => ?_
  refine tr_low fun hW => ?_
  rw [List.length_set] at hW
  have hWk : ∀ (l : List ByteArray) (x : Rs), lowB (A.length + 2) (hw ++ colH 9 1 l).length (A.set b (rdB ex L n x) ++ [clB0, ⟨false, [sA who, colA stC hw.length l]⟩]) = true := fun l x => by
    refine low_ext (lowB_up (Nat.le_refl _) (by rw [List.length_append]; exact Nat.le_add_right _ _) hW) (by omega) rfl ?_
    simp only [lowB, lows, low_c, low_colW, Bool.and_self]
  repeat (first | refine tr_seq_k fun _ _ => ?_ | (refine tr_region ?_; simp only [go_sem, reduceCtorEq, Nat.reduceEqDiff, Nat.reduceLT, Nat.reduceLeDiff, Nat.reduceAdd, Nat.reduceMul, Nat.reduceSub, Nat.reduceBEq, ↓reduceIte, g, g', s_set, List.length_set, List.length_append, List.length_cons, List.length_nil, List.append_assoc, List.cons_append, List.nil_append, sa_get0, sa_get1, sa_set0, sa_set1]) | (refine call_givesW (c1) ?_; (try dsimp only); (try simp only [go_sem, reduceCtorEq, Nat.reduceEqDiff, Nat.reduceLT, Nat.reduceLeDiff, Nat.reduceAdd, Nat.reduceMul, Nat.reduceSub, Nat.reduceBEq, ↓reduceIte, g, g', s_set, List.length_set, List.length_append, List.length_cons, List.length_nil, List.append_assoc, List.cons_append, List.nil_append, sa_get0, sa_get1, sa_set0, sa_set1])) | (refine call_givesW (c2) ?_; (try dsimp only); (try simp only [go_sem, reduceCtorEq, Nat.reduceEqDiff, Nat.reduceLT, Nat.reduceLeDiff, Nat.reduceAdd, Nat.reduceMul, Nat.reduceSub, Nat.reduceBEq, ↓reduceIte, g, g', s_set, List.length_set, List.length_append, List.length_cons, List.length_nil, List.append_assoc, List.cons_append, List.nil_append, sa_get0, sa_get1, sa_set0, sa_set1])) | refine k_of (by assumption) ?_ | refine tr_block ?_)
  refine tr_loop_k (σ := Bool × Nat × Rs × List ByteArray) (fun q => [(0, .ptr b 0), (2, .ptr A.length 0), (3, .ptr (A.length + 1) 0), (4, bA q.1)]) (fun q => ⟨A.set b (rdB ex L n q.2.2.1) ++ [clB0, ⟨false, [sA who, colA stC hw.length q.2.2.2]⟩], hw ++ colH 9 1 q.2.2.2⟩)
      (fun q => (q.1 = true → clearL L n q.2.1 q.2.2.1 q.2.2.2 = T ∧ L.length < q.2.1 + q.2.2.1.i ∧ q.2.2.1.i ≤ L.length ∧ q.2.2.2.length + q.2.1 ≤ L.length + 1) ∧ (q.1 = false → (q.2.2.1, q.2.2.2) = T)) (fun q => if q.1 then q.2.1 + 1 else 0) (true, L.length + 1, r0, []) ⟨fun _ => ⟨hT.symm, by dsimp only; omega, by dsimp only; omega, by dsimp only [List.length_nil]; omega⟩, (fun h => by cases h)⟩ ⟨rfl, rfl, rfl, rfl, trivial⟩ (by simp [colH, colA]) ?_
  rintro ⟨more, f, r2, out⟩ ⟨hI1, hI2⟩ K hK
  dsimp only at hI1 hI2 ⊢
  have cc := clean_col stC hw.length out
  cases more with
  | false =>
      obtain rfl := hI2 rfl
      repeat (first | refine tr_seq_k fun _ _ => ?_ | (refine tr_region ?_; simp only [go_sem, reduceCtorEq, Nat.reduceEqDiff, Nat.reduceLT, Nat.reduceLeDiff, Nat.reduceAdd, Nat.reduceMul, Nat.reduceSub, Nat.reduceBEq, ↓reduceIte, g, g', s_set, List.length_set, List.length_append, List.length_cons, List.length_nil, List.append_assoc, List.cons_append, List.nil_append, sa_get0, sa_get1, sa_set0, sa_set1]) | refine k_of (by assumption) ?_)
      refine tr_cond rfl (fun ht => ?_) (fun hf => ?_)
      · cases ht
      · repeat (first | refine tr_seq_k fun _ _ => ?_ | (refine tr_region ?_; simp only [go_sem, reduceCtorEq, Nat.reduceEqDiff, Nat.reduceLT, Nat.reduceLeDiff, Nat.reduceAdd, Nat.reduceMul, Nat.reduceSub, Nat.reduceBEq, ↓reduceIte, g, g', s_set, List.length_set, List.length_append, List.length_cons, List.length_nil, List.append_assoc, List.cons_append, List.nil_append, sa_get0, sa_get1, sa_set0, sa_set1, cc]) | refine k_of (by assumption) ?_ | (refine tr_exit ?_; try simp only [ex_seq_exit, ex_block_exit, Nat.reduceEqDiff, if_true, if_false, ex_seq, ex_block, reduceCtorEq, ↓reduceIte]) | (refine tr_ret ?_; try simp only [ex_seq_ret, ex_block_ret]))
        refine (hQ _ _ [.agg [.v (.string who), .sl out.isEmpty out.length (out.flatMap stC)]] ?_ rfl rfl).2 <;> simp only [go_sem, reduceCtorEq, Nat.reduceEqDiff, Nat.reduceLT, Nat.reduceLeDiff, Nat.reduceAdd, Nat.reduceMul, Nat.reduceSub, Nat.reduceBEq, ↓reduceIte, Tryd.f33, g, g', s_set, List.length_set, List.length_append, List.length_cons, List.length_nil, List.append_assoc, List.cons_append, List.nil_append, sa_get0, sa_get1, sa_set0, sa_set1, cc]
  | true =>
      obtain ⟨hS, hf1, hi3, ho1⟩ := hI1 rfl
      obtain ⟨f, rfl⟩ : ∃ f', f = f' + 1 := ⟨f - 1, by omega⟩
      rw [clearL_succ] at hS
      cases d1 : decide (r2.e = 0) with
      | false =>
        rw [if_neg (of_decide_eq_false d1)] at hS
        obtain rfl := hS
        repeat (first | refine tr_seq_k fun _ _ => ?_ | (refine tr_region ?_; simp only [go_sem, reduceCtorEq, Nat.reduceEqDiff, Nat.reduceLT, Nat.reduceLeDiff, Nat.reduceAdd, Nat.reduceMul, Nat.reduceSub, Nat.reduceBEq, ↓reduceIte, g, g', s_set, List.length_set, List.length_append, List.length_cons, List.length_nil, List.append_assoc, List.cons_append, List.nil_append, sa_get0, sa_get1, sa_set0, sa_set1, d1]) | refine k_of (by assumption) ?_)
        refine tr_cond rfl (fun ht => ?_) (fun hf => ?_)
        · cases ht
        · repeat (first | refine tr_seq_k fun _ _ => ?_ | (refine tr_region ?_; simp only [go_sem, reduceCtorEq, Nat.reduceEqDiff, Nat.reduceLT, Nat.reduceLeDiff, Nat.reduceAdd, Nat.reduceMul, Nat.reduceSub, Nat.reduceBEq, ↓reduceIte, g, g', s_set, List.length_set, List.length_append, List.length_cons, List.length_nil, List.append_assoc, List.cons_append, List.nil_append, sa_get0, sa_get1, sa_set0, sa_set1, cc]) | refine k_of (by assumption) ?_ | (refine tr_exit ?_; try simp only [ex_seq_exit, ex_block_exit, Nat.reduceEqDiff, if_true, if_false, ex_seq, ex_block, reduceCtorEq, ↓reduceIte]) | (refine tr_ret ?_; try simp only [ex_seq_ret, ex_block_ret]))
          refine (hQ _ _ [.agg [.v (.string who), .sl out.isEmpty out.length (out.flatMap stC)]] ?_ rfl rfl).2 <;> simp only [go_sem, reduceCtorEq, Nat.reduceEqDiff, Nat.reduceLT, Nat.reduceLeDiff, Nat.reduceAdd, Nat.reduceMul, Nat.reduceSub, Nat.reduceBEq, ↓reduceIte, Tryd.f33, g, g', s_set, List.length_set, List.length_append, List.length_cons, List.length_nil, List.append_assoc, List.cons_append, List.nil_append, sa_get0, sa_get1, sa_set0, sa_set1, cc]
      | true =>
        rw [if_pos (of_decide_eq_true d1)] at hS
        have cA := withE (fun A' hb' => next_gives (A := A') (hw := hw ++ colH 9 1 out) (ex := ex) (n := n) hb' hL r2 0 (by omega)) hb [clB0, ⟨false, [sA who, colA stC hw.length out]⟩]
        have hai := next_i (L := L) (n := n) (r := r2) (s := 0)
        generalize nextR L n r2 0 = r3 at *
        generalize nextS L r2 0 = s at *
        have ap := appSw (A.set b (rdB ex L n r3) ++ [clB0, ⟨false, [sA who, colA stC hw.length out]⟩]) hw out s (by omega)
        have b1 := build1T s
        have px : plain1 (colA stC hw.length out) = true := plain1_col _ _ _
        have ac := avCells_col stC hw.length (out ++ [s])
        have cC := withE (fun A' hb' => maybe_gives (A := A') (hw := hw ++ colH 9 1 (out ++ [s])) (ex := ex) (n := n) hb' hL.len r3 kCom) hb [clB0, ⟨false, [sA who, colA stC hw.length (out ++ [s])]⟩]
        unfold maybeR at cC
        repeat (first | refine tr_seq_k fun _ _ => ?_ | (refine tr_region ?_; simp only [go_sem, reduceCtorEq, Nat.reduceEqDiff, Nat.reduceLT, Nat.reduceLeDiff, Nat.reduceAdd, Nat.reduceMul, Nat.reduceSub, Nat.reduceBEq, ↓reduceIte, g, g', s_set, List.length_set, List.length_append, List.length_cons, List.length_nil, List.append_assoc, List.cons_append, List.nil_append, sa_get0, sa_get1, sa_set0, sa_set1, d1]) | refine k_of (by assumption) ?_)
        refine tr_cond rfl (fun ht => ?_) (fun hf => ?_)
        · refine tr_skip ?_
          simp only [ex_seq]
          refine k_of (by assumption) ?_
          refine tr_seq_k fun K5 hK5 => ?_
          refine tr_block ?_
          refine tr_drawX (id := 6) follows otClr (by kernel_rfl) [(0, .ptr b 0), (2, .ptr A.length 0), (3, .ptr (A.length + 1) 0)] ⟨A.set b (rdB ex L n r3) ++ [clB0, ⟨false, [sA who, colA stC hw.length (out ++ [s])]⟩], hw ++ colH 9 1 (out ++ [s])⟩ ?_ ?_
          · unfold otClr
            simp only [go_sem, reduceCtorEq, Nat.reduceEqDiff, Nat.reduceLT, Nat.reduceLeDiff, Nat.reduceAdd, Nat.reduceMul, Nat.reduceSub, Nat.reduceBEq, ↓reduceIte, g, g', s_set, List.length_set, List.length_append, List.length_cons, List.length_nil, List.append_assoc, List.cons_append, List.nil_append, sa_get0, sa_get1, sa_set0, sa_set1, b1, one_max, ap, ac]
            repeat' (first | (refine call_givesW (cA) ?_; (try dsimp only); (try simp only [go_sem, reduceCtorEq, Nat.reduceEqDiff, Nat.reduceLT, Nat.reduceLeDiff, Nat.reduceAdd, Nat.reduceMul, Nat.reduceSub, Nat.reduceBEq, ↓reduceIte, g, g', s_set, List.length_set, List.length_append, List.length_cons, List.length_nil, List.append_assoc, List.cons_append, List.nil_append, sa_get0, sa_get1, sa_set0, sa_set1, b1, one_max, ap, ac, px])) | refine And.intro ?_ ?_)
          · cases h5 : isT L r3 kCom with
            | true =>
              have hlt3 := (isT_lt h5).2
              rw [h5, if_pos rfl] at cC
              rw [h5, if_pos rfl] at hS
              repeat (first | (refine tr_region ?_; simp only [go_sem, reduceCtorEq, Nat.reduceEqDiff, Nat.reduceLT, Nat.reduceLeDiff, Nat.reduceAdd, Nat.reduceMul, Nat.reduceSub, Nat.reduceBEq, ↓reduceIte, g, g', s_set, List.length_set, List.length_append, List.length_cons, List.length_nil, List.append_assoc, List.cons_append, List.nil_append, sa_get0, sa_get1, sa_set0, sa_set1]) | (refine call_givesW (cC) ?_; (try dsimp only); (try simp only [go_sem, reduceCtorEq, Nat.reduceEqDiff, Nat.reduceLT, Nat.reduceLeDiff, Nat.reduceAdd, Nat.reduceMul, Nat.reduceSub, Nat.reduceBEq, ↓reduceIte, g, g', s_set, List.length_set, List.length_append, List.length_cons, List.length_nil, List.append_assoc, List.cons_append, List.nil_append, sa_get0, sa_get1, sa_set0, sa_set1])) | refine k_of (by assumption) ?_)
              exact hK (true, f, r3.adv, out ++ [s]) _ _ ⟨fun _ => ⟨hS, by show L.length < f + (r3.i + 1); omega, hlt3, by simp only [List.length_append, List.length_cons, List.length_nil]; omega⟩, (fun h => by cases h)⟩ ⟨⟨rfl, rfl, rfl, rfl, trivial⟩, Keep.refl _, by simp only [lowF, low_colW, low_ptr, low_c, List.length_append, List.length_set, List.length_cons, List.length_nil, Nat.blt_eq, Bool.and_eq_true, and_true]; omega, by rw [List.length_append, List.length_set]; exact hWk _ _, by simp only [List.length_append, List.length_set]; exact Nat.le_refl _, by simp only [List.length_append, colH, List.length_nil]; omega⟩ (by simp)
            | false =>
              rw [h5, if_neg Bool.false_ne_true] at cC
              rw [h5, if_neg Bool.false_ne_true] at hS
              repeat (first | (refine tr_region ?_; simp only [go_sem, reduceCtorEq, Nat.reduceEqDiff, Nat.reduceLT, Nat.reduceLeDiff, Nat.reduceAdd, Nat.reduceMul, Nat.reduceSub, Nat.reduceBEq, ↓reduceIte, g, g', s_set, List.length_set, List.length_append, List.length_cons, List.length_nil, List.append_assoc, List.cons_append, List.nil_append, sa_get0, sa_get1, sa_set0, sa_set1]) | (refine call_givesW (cC) ?_; (try dsimp only); (try simp only [go_sem, reduceCtorEq, Nat.reduceEqDiff, Nat.reduceLT, Nat.reduceLeDiff, Nat.reduceAdd, Nat.reduceMul, Nat.reduceSub, Nat.reduceBEq, ↓reduceIte, g, g', s_set, List.length_set, List.length_append, List.length_cons, List.length_nil, List.append_assoc, List.cons_append, List.nil_append, sa_get0, sa_get1, sa_set0, sa_set1])) | refine k_of (by assumption) ?_)
              exact hK (false, f, r3, out ++ [s]) _ _ ⟨(fun h => by cases h), fun _ => hS⟩ ⟨⟨rfl, rfl, rfl, rfl, trivial⟩, Keep.refl _, by simp only [lowF, low_colW, low_ptr, low_c, List.length_append, List.length_set, List.length_cons, List.length_nil, Nat.blt_eq, Bool.and_eq_true, and_true]; omega, by rw [List.length_append, List.length_set]; exact hWk _ _, by simp only [List.length_append, List.length_set]; exact Nat.le_refl _, by simp only [List.length_append, colH, List.length_nil]; omega⟩ (by simp)
        · cases hf
theorem clear_gives (hb : b < A.length) (hL : TkOk L) (r : Rs) (hr : r.i ≤ L.length) : GivesW Tryd.prog 33 [.ptr b 0] ⟨A.set b (rdB ex L n r), hw⟩ (.agg [.v (.string (clearF L n r).2.1), .sl (clearF L n r).2.2.isEmpty (clearF L n r).2.2.length ((clearF L n r).2.2.flatMap stC)]) ⟨A.set b (rdB ex L n (clearF L n r).1), hw⟩ := by
  obtain ⟨y, z, h⟩ := clear_raw (hw := hw) (ex := ex) (n := n) hb hL r hr
  refine h.trim ⟨⟨[y, z], rfl⟩, ⟨_, rfl⟩⟩ (fun hl => ?_) (by simp) (Nat.le_refl _) (cut_shut rfl)
  simp only [List.length_set] at hl ⊢
  exact low_re hl rfl
end Go.Proofs.YtaeehadibckcjaaDoor
namespace Go.Vs.Ab
open Go.RowKit
variable {P : Program}
def apK {T : Type} (hw : List Hw) (k : Nat) : List T → Nat
  | [] => hw.length
  | _ :: _ => k
def apH {T : Type} (hw : List Hw) (k : Nat) (e : TypeId) (size : Nat) : List T → List Hw
  | [] => hw ++ [⟨1, e, size⟩]
  | _ :: l => hw.set k ⟨l.length + 1 + 1, e, size⟩
def ColIs {T : Type} (hw : List Hw) (k : Nat) (e : TypeId) (size : Nat) (l : List T) : Prop := l ≠ [] → hw[k]? = some ⟨l.length, e, size⟩
theorem colIs_nil {T : Type} (hw : List Hw) (k : Nat) (e : TypeId) (size : Nat) : ColIs (T := T) hw k e size [] := fun h => absurd rfl h
theorem colIs_low {T : Type} {enc : T → List CV} {hw : List Hw} {k : Nat} {e : TypeId} {size : Nat} {l : List T} (h : ColIs hw k e size l) (i : Nat) : low i hw.length (colA enc k l) = true := by
  cases l with
  | nil => rfl
  | cons x l =>
    have := (List.getElem?_eq_some_iff.1 (h (by simp))).1
    simp only [colA, low, Nat.blt_eq]
    exact this
theorem app_gen {T : Type} (enc : T → List CV) {t e : TypeId} {size bytes : Nat} (hk : ∀ x, (enc x).length = size) (ht : P.underlying t = some (.slice e)) (hi : info3 P e = some (size, bytes)) {hw : List Hw} {k : Nat} {l : List T} {x : T} (hI : ColIs hw k e size l)
    (hl : l.length + 1 ≤ maxLen) (hb : (l.length + 1) * bytes ≤ 140737488355328) (hp : List Blk) :
    aAppend P ⟨hp, hw⟩ t (colA enc k l) (.c (.sl true 1 (enc x))) = some (colA enc (apK hw k l) (l ++ [x]), ⟨hp, apH hw k e size l⟩) := by
  have hf : ∀ lc, lc = l.length * size → fits l.length 1 size bytes lc (enc x).length = true := fun lc e1 => by
    have h1 : Nat.ble (l.length + 1) maxLen = true := by simpa using hl
    have h2 : Nat.ble ((l.length + 1) * bytes) 140737488355328 = true := by simpa using hb
    simp only [fits, e1, hk, h1, h2, Nat.one_mul, Nat.beq_refl, Bool.and_self]
  have hne : l ++ [x] ≠ [] := by simp
  rw [colA_ne enc _ hne]
  have e2 : (l ++ [x]).length = l.length + 1 := by simp
  have e3 : (l ++ [x]).flatMap enc = l.flatMap enc ++ enc x := by simp
  cases l with
  | nil =>
    have := hf 0 (by simp)
    simp only [List.length_nil] at this
    simp only [aAppend, ht, hi, slV, colA, dst, apK, apH, List.length_nil, this, if_true, e2, e3, List.flatMap_nil, List.nil_append, Nat.zero_add]
    rw [if_neg (by decide)]
    simp
  | cons y l =>
    have := hf (((y :: l).flatMap enc).length) (flat_length enc size hk _)
    simp only [List.length_cons] at this
    have h5 : hw[k]? = some ⟨l.length + 1, e, size⟩ := hI (by simp)
    simp only [aAppend, ht, hi, slV, colA, dst, apK, apH, h5, Nat.beq_refl, this, Bool.and_self, if_true, e2, e3, List.length_cons]
    rw [if_neg (by decide)]
theorem apH_self {T : Type} {hw : List Hw} {k : Nat} {e : TypeId} {size : Nat} {l : List T} (x : T) (h : ColIs hw k e size l) : ColIs (apH hw k e size l) (apK hw k l) e size (l ++ [x]) := fun _ => by
  cases l with
  | nil => simp [apH, apK]
  | cons y l =>
    have := (List.getElem?_eq_some_iff.1 (h (by simp))).1
    simp only [apH, apK]
    rw [List.getElem?_set_self this]
    simp
theorem apH_other {T U : Type} {hw : List Hw} {k k' : Nat} {e e' : TypeId} {size size' : Nat} {l : List T} {l' : List U} (h : ColIs hw k e size l) (h' : ColIs hw k' e' size' l') (hne : e ≠ e') : ColIs (apH hw k e size l) k' e' size' l' := fun hl => by
  have g := h' hl
  have hlt := (List.getElem?_eq_some_iff.1 g).1
  cases l with
  | nil =>
    simp only [apH]
    rw [List.getElem?_append_left hlt]
    exact g
  | cons y l =>
    have g2 := h (by simp)
    simp only [apH]
    rw [List.getElem?_set_ne, g]
    intro ek
    subst ek
    rw [g2] at g
    injection g with g
    injection g with _ g _
    exact hne g
theorem apH_len {T : Type} (hw : List Hw) (k : Nat) (e : TypeId) (size : Nat) (l : List T) : hw.length ≤ (apH hw k e size l).length := by
  cases l with
  | nil => simp [apH]
  | cons => simp [apH]
end Go.Vs.Ab
