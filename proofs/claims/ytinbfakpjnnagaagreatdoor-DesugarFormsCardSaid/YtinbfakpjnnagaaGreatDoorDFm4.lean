/-
  For every input the statement DesugarForms returns true, and leaves its arguments as they were.
-/
import Derived.Test.YtinbfakpjnnagaaGreatDoorDFm3
import Derived.Test.YtinbfakpjnnagaaGreatDoorDFOpen
import Derived.SizedLaws
import Derived.Test.YtinbfakpjnnagaaGreatDoorDFLaw
import Derived.Test.YtinbfakpjnnagaaGreatDoorRows
import Derived.Test.YtinbfakpjnnagaaGreatDoorCards
import Derived.Test.YtinbfakpjnnagaaGreatDoorTie
import Derived.ProofKit
import Derived.LaidMore
import Derived.LaidHandle
import Derived.OpenShut
import Derived.Stop.Joined
import Derived.SevenTiedAt
set_option linter.unusedSimpArgs false
set_option linter.unusedVariables false
namespace Go.Proofs.YtinbfakpjnnagaaGreatDoor
open Go.RowKit Go.Vs Go.Vs.Ab Go.Vs.Sm
set_option maxRecDepth 100000
set_option maxHeartbeats 4000000
theorem atomsF_ok {p : Pol} (hF : Formed p) : ∀ a ∈ atomsF p, pcheck3 a = 0 := fun a ha => by
  unfold atomsF at ha
  obtain ⟨c, hc, ha⟩ := List.mem_flatMap.1 ha
  obtain ⟨h1, h2⟩ := cls_ok hF c hc
  rcases List.mem_cons.1 ha with rfl | ha
  · exact h1
  · exact h2 a ha
theorem countP_miss {T : Type} {P : T → Bool} {l : List T} {k : Nat} (h : k < l.length) (hp : P l[k] = false) : (l.take (k + 1)).countP P = (l.take k).countP P := by
  have := countP_next (P := P) h
  rw [hp] at this
  exact this
theorem countP_hit {T : Type} {P : T → Bool} {l : List T} {k : Nat} (h : k < l.length) (hp : P l[k] = true) : (l.take (k + 1)).countP P = (l.take k).countP P + 1 := by
  have := countP_next (P := P) h
  rw [hp] at this
  exact this
theorem dforms_does (p : Pol) : Does Tryz.prog 4 [poA p] (fun m => (bA true, m)) := by
  have c0 := lives13_does
  have cL := lightP_does p
  cases h1 : lightP p with
  | false =>
    rw [h1] at cL
    refine does_of' Tryz.func4 rfl (by kernel_rfl) rfl Tryz.ntmps4 rfl rfl fun Q hQ => ?_
    repeat (first | refine tr_seq_k fun _ _ => ?_ | (refine tr_region ?_; simp only [go_sem, reduceCtorEq, Nat.reduceEqDiff, Nat.reduceLT, ↓reduceIte]) | (refine call_of (c0) ?_ ?_; (first | rfl | simp only [go_sem, reduceCtorEq, Nat.reduceEqDiff, Nat.reduceLT, Nat.reduceLeDiff, Nat.reduceAdd, Nat.reduceMul, Nat.reduceSub, Nat.reduceBEq, ↓reduceIte, shut_col]); simp only [go_sem, reduceCtorEq, Nat.reduceEqDiff, Nat.reduceLT, ↓reduceIte]) | refine k_of (by assumption) ?_)
    refine tr_cond rfl (fun ht => ?_) (fun hf => ?_)
    · cases ht
    · repeat (first | refine tr_seq_k fun _ _ => ?_ | (refine tr_region ?_; simp only [go_sem, List.getElem?_toArray, reduceCtorEq, Nat.reduceEqDiff, Nat.reduceLT, Nat.reduceLeDiff, Nat.reduceAdd, ↓reduceIte]) | (refine call_of (cL) ?_ ?_; (first | rfl | simp only [go_sem, reduceCtorEq, Nat.reduceEqDiff, Nat.reduceLT, Nat.reduceLeDiff, Nat.reduceAdd, Nat.reduceMul, Nat.reduceSub, Nat.reduceBEq, ↓reduceIte, shut_col]); simp only [go_sem, reduceCtorEq, Nat.reduceEqDiff, Nat.reduceLT, ↓reduceIte]) | refine k_of (by assumption) ?_ | (refine tr_skip ?_; try simp only [ex_seq]))
      refine tr_cond rfl (fun ht => ?_) (fun hf => ?_)
      · repeat (first | refine tr_seq_k fun _ _ => ?_ | (refine tr_region ?_; simp only [go_sem, reduceCtorEq, Nat.reduceEqDiff, Nat.reduceLT, ↓reduceIte]) | refine k_of (by assumption) ?_ | (refine tr_ret ?_; try simp only [ex_seq_ret]))
        refine (hQ _ _ [bA true] ?_ (fun m => ?_)).2 <;> simp only [go_sem, reduceCtorEq, Nat.reduceEqDiff, ↓reduceIte, Tryz.f4,]
      · cases hf
  | true =>
    rw [h1] at cL
    have hL := light13 h1
    have cK := check12_does p hL.p12 (fun r hr => (hL.rules r hr).1)
    cases h2 : decide (check12 p = 0) with
    | false =>
      refine does_of' Tryz.func4 rfl (by kernel_rfl) rfl Tryz.ntmps4 rfl rfl fun Q hQ => ?_
      repeat (first | refine tr_seq_k fun _ _ => ?_ | (refine tr_region ?_; simp only [go_sem, reduceCtorEq, Nat.reduceEqDiff, Nat.reduceLT, ↓reduceIte]) | (refine call_of (c0) ?_ ?_; (first | rfl | simp only [go_sem, reduceCtorEq, Nat.reduceEqDiff, Nat.reduceLT, Nat.reduceLeDiff, Nat.reduceAdd, Nat.reduceMul, Nat.reduceSub, Nat.reduceBEq, ↓reduceIte, shut_col]); simp only [go_sem, reduceCtorEq, Nat.reduceEqDiff, Nat.reduceLT, ↓reduceIte]) | refine k_of (by assumption) ?_)
      refine tr_cond rfl (fun ht => ?_) (fun hf => ?_)
      · cases ht
      · repeat (first | refine tr_seq_k fun _ _ => ?_ | (refine tr_region ?_; simp only [go_sem, List.getElem?_toArray, reduceCtorEq, Nat.reduceEqDiff, Nat.reduceLT, Nat.reduceLeDiff, Nat.reduceAdd, ↓reduceIte]) | (refine call_of (cL) ?_ ?_; (first | rfl | simp only [go_sem, reduceCtorEq, Nat.reduceEqDiff, Nat.reduceLT, Nat.reduceLeDiff, Nat.reduceAdd, Nat.reduceMul, Nat.reduceSub, Nat.reduceBEq, ↓reduceIte, h2, shut_col]); simp only [go_sem, reduceCtorEq, Nat.reduceEqDiff, Nat.reduceLT, Nat.reduceLeDiff, Nat.reduceAdd, ↓reduceIte]) | (refine call_of (cK) ?_ ?_; (first | rfl | simp only [go_sem, reduceCtorEq, Nat.reduceEqDiff, Nat.reduceLT, Nat.reduceLeDiff, Nat.reduceAdd, Nat.reduceMul, Nat.reduceSub, Nat.reduceBEq, ↓reduceIte, h2, shut_col]); simp only [go_sem, reduceCtorEq, Nat.reduceEqDiff, Nat.reduceLT, ↓reduceIte, h2]) | refine k_of (by assumption) ?_ | (refine tr_skip ?_; try simp only [ex_seq]))
        refine tr_cond rfl (fun ht => ?_) (fun hf => ?_)
        · repeat (first | refine tr_seq_k fun _ _ => ?_ | (refine tr_region ?_; simp only [go_sem, reduceCtorEq, Nat.reduceEqDiff, Nat.reduceLT, ↓reduceIte]) | refine k_of (by assumption) ?_ | (refine tr_ret ?_; try simp only [ex_seq_ret]))
          refine (hQ _ _ [bA true] ?_ (fun m => ?_)).2 <;> simp only [go_sem, reduceCtorEq, Nat.reduceEqDiff, ↓reduceIte, Tryz.f4,]
        · cases hf
    | true =>
      have hF := check12_formed (of_decide_eq_true h2)
      have cC := clauses13_does hL
      have cFo := forms_does hL
      have cCo := consts13_does hL
      have hok := atomsF_ok hF
      have hasz := atomsF_sz hL
      have hall := atomsF_len hL
      obtain ⟨f1, f2, f3⟩ := forms_facts hok
      have f4 := fun a ha => forms_count hok (a := a) ha
      obtain ⟨g1, g2, g3⟩ := sortB_facts (l := csAll (atomsF p)) (csF_nodup _ List.nodup_nil)
      have gl : (csAll (atomsF p)).length ≤ 100000 := by
        have := csF_len (atomsF p) (acc := [])
        rw [List.length_nil] at this
        unfold csAll
        omega
      have gl2 : (sortB (csAll (atomsF p))).length ≤ 100000 := by rw [sortB_len]; exact gl
      have fl : (srtA (fdist (atomsF p))).length ≤ 100000 := by
        have q1 := srtA_len (fdist (atomsF p))
        have q2 := fdist_le (atomsF p)
        omega
      have hC1 : ∀ c ∈ clausesF p, c.head ∈ atomsF p ∧ ∀ a ∈ c.body, a ∈ atomsF p := fun c hc => ⟨List.mem_flatMap.2 ⟨c, hc, List.mem_cons_self⟩, fun a ha => List.mem_flatMap.2 ⟨c, hc, List.mem_cons_of_mem _ ha⟩⟩
      have hCl : ∀ c ∈ clausesF p, c.body.length ≤ 10 := fun c hc => (cls_sz hL c hc).2.2
      have hll : (clausesF p).length ≤ 140 := by
        have := clauses_len p
        have := hL.rn
        have := hL.gn
        omega
      have hcm : ∀ a ∈ atomsF p, ∀ d ∈ pnames a false, (sortB (csAll (atomsF p))).countP (fun y => decide (y = d)) = 1 := fun a ha d hd => countP_one g3 ((g2 d).2 (mem_csAll.2 ⟨a, ha, hd⟩)) (fun y _ => by rw [decide_eq_true_eq])
      have hsf : ∀ x ∈ srtA (fdist (atomsF p)), AtSz x ∧ Atm.okay x ∧ ((pnames x true).length : Int) = x.n ∧ pcanon x = x := fun x hx => by
        obtain ⟨a, ha, rfl⟩ := f2 x hx
        have sx := formA_sz (hasz a ha)
        have hr := (formK_rest a a.count a.count_le).2.2
        obtain ⟨_, _, b3, b4, _⟩ := check3_zero (hok a ha)
        exact ⟨sx, okay_of sx (by show 0 ≤ (formK a a.count).n; rw [hr]; exact b3) (by show (formK a a.count).n ≤ 4; rw [hr]; exact b4), form_vars (hok a ha), form_canon a⟩
      have hao : ∀ a ∈ atomsF p, Atm.okay a := fun a ha => okay_of (hasz a ha) (check3_zero (hok a ha)).2.2.1 (check3_zero (hok a ha)).2.2.2.1
      unfold formsF at cFo
      unfold constsF at cCo
      generalize (csAll (atomsF p)).isEmpty = eC at *
      generalize (atomsF p).isEmpty = eF at *
      generalize hf0 : srtA (fdist (atomsF p)) = f at *
      generalize hc0 : sortB (csAll (atomsF p)) = c at *
      have cIs := is8_does f eF (by omega) (fun x hx => (hsf x hx).1) f1
      generalize clausesF p = C at *
      generalize atomsF p = L at *
      refine does_of' Tryz.func4 rfl (by kernel_rfl) rfl Tryz.ntmps4 rfl rfl fun Q hQ => ?_
      repeat (first | refine tr_seq_k fun _ _ => ?_ | (refine tr_region ?_; simp only [go_sem, reduceCtorEq, Nat.reduceEqDiff, Nat.reduceLT, ↓reduceIte]) | (refine call_of (c0) ?_ ?_; (first | rfl | simp only [go_sem, reduceCtorEq, Nat.reduceEqDiff, Nat.reduceLT, Nat.reduceLeDiff, Nat.reduceAdd, Nat.reduceMul, Nat.reduceSub, Nat.reduceBEq, ↓reduceIte, shut_col]); simp only [go_sem, reduceCtorEq, Nat.reduceEqDiff, Nat.reduceLT, ↓reduceIte]) | refine k_of (by assumption) ?_)
      refine tr_cond rfl (fun ht => ?_) (fun hf => ?_)
      · cases ht
      · repeat (first | refine tr_seq_k fun _ _ => ?_ | (refine tr_region ?_; simp only [go_sem, List.getElem?_toArray, reduceCtorEq, Nat.reduceEqDiff, Nat.reduceLT, Nat.reduceLeDiff, Nat.reduceAdd, ↓reduceIte]) | (refine call_of (cL) ?_ ?_; (first | rfl | simp only [go_sem, reduceCtorEq, Nat.reduceEqDiff, Nat.reduceLT, Nat.reduceLeDiff, Nat.reduceAdd, Nat.reduceMul, Nat.reduceSub, Nat.reduceBEq, ↓reduceIte, h2, shut_col]); simp only [go_sem, reduceCtorEq, Nat.reduceEqDiff, Nat.reduceLT, Nat.reduceLeDiff, Nat.reduceAdd, ↓reduceIte]) | (refine call_of (cK) ?_ ?_; (first | rfl | simp only [go_sem, reduceCtorEq, Nat.reduceEqDiff, Nat.reduceLT, Nat.reduceLeDiff, Nat.reduceAdd, Nat.reduceMul, Nat.reduceSub, Nat.reduceBEq, ↓reduceIte, h2, shut_col]); simp only [go_sem, reduceCtorEq, Nat.reduceEqDiff, Nat.reduceLT, ↓reduceIte, h2]) | refine k_of (by assumption) ?_ | (refine tr_skip ?_; try simp only [ex_seq]))
        refine tr_cond rfl (fun ht => ?_) (fun hf => ?_)
        · cases ht
        · repeat (first | refine tr_seq_k fun _ _ => ?_ | (refine tr_region ?_; simp only [go_sem, reduceCtorEq, Nat.reduceEqDiff, Nat.reduceLT, ↓reduceIte]) | (refine tr_draw (id := 5) follows 10000 [1, 3] [0, 2, 1, 3, 4, 5] (by kernel_rfl) ?_; simp only [go_sem, List.getElem?_toArray, reduceCtorEq, Nat.reduceEqDiff, Nat.reduceLT, Nat.reduceLeDiff, Nat.reduceAdd, ↓reduceIte]) | (refine call_of (cFo) ?_ ?_; (first | rfl | simp only [go_sem, reduceCtorEq, Nat.reduceEqDiff, Nat.reduceLT, Nat.reduceLeDiff, Nat.reduceAdd, Nat.reduceMul, Nat.reduceSub, Nat.reduceBEq, ↓reduceIte, shut_col]); simp only [go_sem, Nat.reduceBEq, Bool.true_or, Bool.false_or]) | (refine call_of (cCo) ?_ ?_; (first | rfl | simp only [go_sem, reduceCtorEq, Nat.reduceEqDiff, Nat.reduceLT, Nat.reduceLeDiff, Nat.reduceAdd, Nat.reduceMul, Nat.reduceSub, Nat.reduceBEq, ↓reduceIte, shut_col]); simp only [go_sem, Nat.reduceBEq, Bool.true_or, Bool.false_or]) | (refine call_of (cIs) ?_ ?_; (first | rfl | simp only [go_sem, reduceCtorEq, Nat.reduceEqDiff, Nat.reduceLT, Nat.reduceLeDiff, Nat.reduceAdd, Nat.reduceMul, Nat.reduceSub, Nat.reduceBEq, ↓reduceIte, shut_col]); simp only [go_sem, reduceCtorEq, Nat.reduceEqDiff, Nat.reduceLT, ↓reduceIte]) | refine k_of (by assumption) ?_ | (refine tr_skip ?_; try simp only [ex_seq]))
          refine tr_cond rfl (fun ht => ?_) (fun hf => ?_)
          · cases ht
          · repeat (first | refine tr_seq_k fun _ _ => ?_ | (refine tr_region ?_; simp only [go_sem, reduceCtorEq, Nat.reduceEqDiff, Nat.reduceLT, ↓reduceIte]) | refine k_of (by assumption) ?_ | refine tr_block ?_ | (refine tr_skip ?_; try simp only [ex_seq]))
            refine tr_loop_k (σ := Nat) (fun i => [(1, .ptr 0 0), (3, .c (slC atC eF f)), (4, .c (slC stC eC c)), (5, iA i)]) (fun _ => ⟨[⟨false, [.c (slC stC p.e1 p.prin), .c (slC prC p.e2 p.preds), .c (slC clC p.e3 p.clears), iA p.quota, iA p.budget, .c (slC ruC p.e4 p.rules), .c (slC grC p.e5 p.grants)]⟩], []⟩) (fun i => i ≤ f.length) (fun i => f.length - i) 0 (Nat.zero_le _) ⟨rfl, rfl, rfl, rfl, trivial⟩ rfl ?_
            rintro i hi K hK
            by_cases hil : i < f.length
            · have q1 : decide ((i : Int) < (f.length : Nat)) = true := decide_eq_true (by omega)
              have ws := wrap_succ (show i ≤ 1000000000 by omega)
              have ix := idxA12 (ex := eF) hil
              obtain ⟨s1, s2, s3, s4⟩ := hsf _ (List.getElem_mem hil)
              generalize f[i] = x at *
              have cV := vars_does s2
              have cN := r7canon_does x s2
              rw [s4] at cN
              have eM := fun y z => bin_neA y z x x
              rw [decide_eq_true rfl] at eM
              simp only [pv_bind, Bool.not_true] at eM
              have el : decide (((pnames x true).length : Int) = x.n) = true := decide_eq_true s3
              generalize pnames x true = V at *
              repeat (first | refine tr_seq_k fun _ _ => ?_ | (refine tr_region ?_; simp only [go_sem, List.getElem?_toArray, Nat.reduceEqDiff, Nat.reduceLT, ↓reduceIte, q1]) | refine k_of (by assumption) ?_)
              refine tr_cond rfl (fun ht => ?_) (fun hf => ?_)
              · repeat (first | refine tr_seq_k fun _ _ => ?_ | (refine tr_draw (id := 11) follows 10000 [4, 17] [0, 1, 2, 3, 6, 7, 8, 9, 10, 4, 5, 11, 12, 13, 14, 15, 16, 18, 19, 20, 21, 17, 22, 23] (by kernel_rfl) ?_; simp only [go_sem, List.getElem?_toArray, reduceCtorEq, Nat.reduceEqDiff, Nat.reduceLT, Nat.reduceLeDiff, ↓reduceIte, ix, atC]) | (refine call_of (cV) ?_ ?_; (first | rfl | simp only [go_sem, reduceCtorEq, Nat.reduceEqDiff, Nat.reduceLT, Nat.reduceLeDiff, Nat.reduceAdd, Nat.reduceMul, Nat.reduceSub, Nat.reduceBEq, ↓reduceIte, ix, atC, el, eM, shut_col]); simp only [go_sem, Nat.reduceEqDiff, Nat.reduceLT, Nat.reduceLeDiff, Nat.reduceBEq, ↓reduceIte, Bool.true_or, Bool.false_or, ix, atC, el]) | (refine call_of (cN) ?_ ?_; (first | rfl | simp only [go_sem, reduceCtorEq, Nat.reduceEqDiff, Nat.reduceLT, Nat.reduceLeDiff, Nat.reduceAdd, Nat.reduceMul, Nat.reduceSub, Nat.reduceBEq, ↓reduceIte, ix, atC, el, eM, shut_col]); simp only [go_sem, Nat.reduceEqDiff, Nat.reduceLT, Nat.reduceBEq, ↓reduceIte, Bool.true_or, Bool.false_or, atC, eM]) | refine k_of (by assumption) ?_ | refine tr_block ?_ | (refine tr_skip ?_; try simp only [ex_seq]))
                refine tr_cond rfl (fun ht => ?_) (fun hf => ?_)
                · cases ht
                · repeat (first | (refine tr_region ?_; simp only [go_sem, Nat.reduceEqDiff, Nat.reduceLT, ↓reduceIte, ws]) | refine k_of (by assumption) ?_ | (refine tr_skip ?_; try simp only [ex_seq, ex_block]))
                  exact hK (i + 1) _ _ hil ⟨⟨rfl, rfl, rfl, rfl, trivial⟩, Keep.refl _, rfl, rfl, Nat.le_refl _, Nat.le_refl _⟩ (by omega)
              · cases hf
            have q1 : decide ((i : Int) < (f.length : Nat)) = false := decide_eq_false (by omega)
            repeat (first | refine tr_seq_k fun _ _ => ?_ | (refine tr_region ?_; simp only [go_sem, List.getElem?_toArray, Nat.reduceEqDiff, Nat.reduceLT, ↓reduceIte, q1]) | refine k_of (by assumption) ?_)
            refine tr_cond rfl (fun ht => ?_) (fun hf => ?_)
            · cases ht
            repeat (first | refine tr_seq_k fun _ _ => ?_ | (refine tr_region ?_; simp only [go_sem, Nat.reduceEqDiff, Nat.reduceLT, ↓reduceIte]) | refine k_of (by assumption) ?_ | refine tr_block ?_ | (refine tr_exit ?_; try simp only [ex_seq_exit, ex_block_exit, ex_seq, ↓reduceIte]))
            refine tr_loop_k (σ := Nat) (fun i => [(1, .ptr 0 0), (3, .c (slC atC eF f)), (4, .c (slC stC eC c)), (6, iA i)]) (fun _ => ⟨[⟨false, [.c (slC stC p.e1 p.prin), .c (slC prC p.e2 p.preds), .c (slC clC p.e3 p.clears), iA p.quota, iA p.budget, .c (slC ruC p.e4 p.rules), .c (slC grC p.e5 p.grants)]⟩], []⟩) (fun i => 1 ≤ i ∧ i ≤ c.length + 1) (fun i => c.length + 1 - i) 1 ⟨Nat.le_refl _, by omega⟩ ⟨rfl, rfl, rfl, rfl, trivial⟩ rfl ?_
            rintro i ⟨hi1, hi2⟩ K hK
            by_cases hil : i < c.length
            · have q1 : decide ((i : Int) < (c.length : Nat)) = true := decide_eq_true (by omega)
              have ws := wrap_succ (show i ≤ 1000000000 by omega)
              have wp : IntKind.i64.wrap ((i : Int) - 1) = ((i - 1 : Nat) : Int) := by rw [wrap_in (by omega)]; omega
              have ix1 := idxS12 (ex := eC) (show i - 1 < c.length by omega)
              have ix2 := idxS12 (ex := eC) hil
              have hb := List.pairwise_iff_getElem.1 g1 (i - 1) i (by omega) hil (by omega)
              repeat (first | refine tr_seq_k fun _ _ => ?_ | (refine tr_region ?_; simp only [go_sem, List.getElem?_toArray, Nat.reduceEqDiff, Nat.reduceLT, ↓reduceIte, q1]) | refine k_of (by assumption) ?_)
              refine tr_cond rfl (fun ht => ?_) (fun hf => ?_)
              · repeat (first | refine tr_seq_k fun _ _ => ?_ | (refine tr_drawC (id := 16) follows 10000 (by kernel_rfl) ?_; simp only [go_sem, Nat.reduceEqDiff, Nat.reduceLT, ↓reduceIte, wp, ix1, ix2, stC, bl_blt, hb]) | refine k_of (by assumption) ?_ | refine tr_block ?_ | (refine tr_skip ?_; try simp only [ex_seq]))
                refine tr_cond rfl (fun ht => ?_) (fun hf => ?_)
                · cases ht
                · repeat (first | (refine tr_region ?_; simp only [go_sem, Nat.reduceEqDiff, Nat.reduceLT, ↓reduceIte, ws]) | refine k_of (by assumption) ?_ | (refine tr_skip ?_; try simp only [ex_seq, ex_block]))
                  exact hK (i + 1) _ _ ⟨by omega, by omega⟩ ⟨⟨rfl, rfl, rfl, rfl, trivial⟩, Keep.refl _, rfl, rfl, Nat.le_refl _, Nat.le_refl _⟩ (by omega)
              · cases hf
            have q1 : decide ((i : Int) < (c.length : Nat)) = false := decide_eq_false (by omega)
            repeat (first | refine tr_seq_k fun _ _ => ?_ | (refine tr_region ?_; simp only [go_sem, List.getElem?_toArray, Nat.reduceEqDiff, Nat.reduceLT, ↓reduceIte, q1]) | refine k_of (by assumption) ?_)
            refine tr_cond rfl (fun ht => ?_) (fun hf => ?_)
            · cases ht
            repeat (first | refine tr_seq_k fun _ _ => ?_ | (refine tr_region ?_; simp only [go_sem, Nat.reduceEqDiff, Nat.reduceLT, Nat.reduceLeDiff, Nat.reduceAdd, ↓reduceIte]) | (refine call_of (cC) ?_ ?_; (first | rfl | simp only [go_sem, reduceCtorEq, Nat.reduceEqDiff, Nat.reduceLT, Nat.reduceLeDiff, Nat.reduceAdd, Nat.reduceMul, Nat.reduceSub, Nat.reduceBEq, ↓reduceIte, shut_col]); simp only [go_sem]) | refine k_of (by assumption) ?_ | refine tr_block ?_ | (refine tr_exit ?_; try simp only [ex_seq_exit, ex_block_exit, ex_seq, ↓reduceIte]))
            refine tr_loop_k (σ := Nat) (fun i => [(1, .ptr 0 0), (3, .c (slC atC eF f)), (4, .c (slC stC eC c)), (7, .c (slC clsC C.isEmpty C)), (8, iA i)]) (fun _ => ⟨[⟨false, [.c (slC stC p.e1 p.prin), .c (slC prC p.e2 p.preds), .c (slC clC p.e3 p.clears), iA p.quota, iA p.budget, .c (slC ruC p.e4 p.rules), .c (slC grC p.e5 p.grants)]⟩], []⟩) (fun i => i ≤ C.length) (fun i => C.length - i) 0 (Nat.zero_le _) ⟨rfl, rfl, rfl, rfl, rfl, trivial⟩ rfl ?_
            clear hi1 hi2 hil q1 hK hi
            rintro i hi K hK
            by_cases hil : i < C.length
            · have q1 : decide ((i : Int) < (C.length : Nat)) = true := decide_eq_true (by omega)
              have ws := wrap_succ (show i ≤ 1000000000 by omega)
              have ix := idxCl (ex := C.isEmpty) hil
              have hx1 := hC1 _ (List.getElem_mem hil)
              have hx2 := hCl _ (List.getElem_mem hil)
              generalize C[i] = x at *
              have hae := all_ex x.head x.body x.ex (by omega)
              have b1 := build1A x.head
              have hAm : ∀ a ∈ x.head :: x.body, a ∈ L := fun a ha => by
                rcases List.mem_cons.1 ha with rfl | ha
                · exact hx1.1
                · exact hx1.2 a ha
              have hAl : (x.head :: x.body).length ≤ 100 := by rw [List.length_cons]; omega
              generalize x.head :: x.body = A at *
              rcases hae with hap | hap
              · repeat (first | refine tr_seq_k fun _ _ => ?_ | (refine tr_region ?_; simp only [go_sem, List.getElem?_toArray, Nat.reduceEqDiff, Nat.reduceLT, ↓reduceIte, q1]) | refine k_of (by assumption) ?_)
                refine tr_cond rfl (fun ht => ?_) (fun hf => ?_)
                · repeat (first | refine tr_seq_k fun _ _ => ?_ | (refine tr_region ?_; simp only [go_sem, Nat.reduceEqDiff, Nat.reduceLT, ↓reduceIte]) | (refine tr_draw (id := 22) follows 10000 [5, 11] [0, 1, 2, 3, 4, 6, 7, 8, 9, 10, 5, 11, 12] (by kernel_rfl) ?_; simp only [go_sem, List.getElem?_toArray, reduceCtorEq, Nat.reduceEqDiff, Nat.reduceLT, Nat.reduceLeDiff, Nat.reduceBEq, ↓reduceIte, Bool.true_or, Bool.false_or, ix, clsC, b1, one_max, hap]) | refine k_of (by assumption) ?_ | refine tr_block ?_ | (refine tr_skip ?_; try simp only [ex_seq]))
                  refine tr_loop_k (σ := Nat) (fun k => [(1, .ptr 0 0), (3, .c (slC atC eF f)), (4, .c (slC stC eC c)), (7, .c (slC clsC C.isEmpty C)), (8, iA i), (9, .c (slC atC true A)), (10, iA k)]) (fun _ => ⟨[⟨false, [.c (slC stC p.e1 p.prin), .c (slC prC p.e2 p.preds), .c (slC clC p.e3 p.clears), iA p.quota, iA p.budget, .c (slC ruC p.e4 p.rules), .c (slC grC p.e5 p.grants)]⟩], []⟩) (fun k => k ≤ A.length) (fun k => A.length - k) 0 (Nat.zero_le _) ⟨rfl, rfl, rfl, rfl, rfl, rfl, rfl, trivial⟩ rfl ?_
                  rintro k hk K2 hK2
                  by_cases hkl : k < A.length
                  · have q2 : decide ((k : Int) < (A.length : Nat)) = true := decide_eq_true (by omega)
                    have ws2 := wrap_succ (show k ≤ 1000000000 by omega)
                    have ixa := idxA12 (ex := true) hkl
                    have haL := hAm _ (List.getElem_mem hkl)
                    generalize A[k] = a at *
                    have f4a := f4 a haL
                    have cD := r3consts_does (hao a haL)
                    have hcd := hcm a haL
                    have hDl : (pnames a false).length ≤ 4 := Nat.le_trans (pnamesC_len a a.count) a.count_le
                    generalize pnames a false = D at *
                    repeat (first | refine tr_seq_k fun _ _ => ?_ | (refine tr_region ?_; simp only [go_sem, List.getElem?_toArray, Nat.reduceEqDiff, Nat.reduceLT, ↓reduceIte, q2]) | refine k_of (by assumption) ?_)
                    refine tr_cond rfl (fun ht => ?_) (fun hf => ?_)
                    · repeat (first | refine tr_seq_k fun _ _ => ?_ | (refine tr_region ?_; simp only [go_sem, Nat.reduceEqDiff, Nat.reduceLT, ↓reduceIte]) | refine k_of (by assumption) ?_ | refine tr_block ?_ | (refine tr_skip ?_; try simp only [ex_seq]))
                      refine tr_loop_k (σ := Nat) (fun n => [(1, .ptr 0 0), (3, .c (slC atC eF f)), (4, .c (slC stC eC c)), (7, .c (slC clsC C.isEmpty C)), (8, iA i), (9, .c (slC atC true A)), (10, iA k), (11, iA (((f.take n).countP (shB a) : Nat))), (12, iA n)]) (fun _ => ⟨[⟨false, [.c (slC stC p.e1 p.prin), .c (slC prC p.e2 p.preds), .c (slC clC p.e3 p.clears), iA p.quota, iA p.budget, .c (slC ruC p.e4 p.rules), .c (slC grC p.e5 p.grants)]⟩], []⟩) (fun n => n ≤ f.length) (fun n => f.length - n) 0 (Nat.zero_le _) ⟨rfl, rfl, rfl, rfl, rfl, rfl, rfl, rfl, rfl, trivial⟩ rfl ?_
                      rintro n hn K3 hK3
                      by_cases hnl : n < f.length
                      · have q3 : decide ((n : Int) < (f.length : Nat)) = true := decide_eq_true (by omega)
                        have ws3 := wrap_succ (show n ≤ 1000000000 by omega)
                        have ixf := idxA12 (ex := eF) hnl
                        have on0 := countP_miss (P := shB a) hnl
                        have on1 := countP_hit (P := shB a) hnl
                        have cl : (f.take n).countP (shB a) ≤ n := Nat.le_trans List.countP_le_length (by rw [List.length_take]; omega)
                        have wc := wrap_succ (show (f.take n).countP (shB a) ≤ 1000000000 by omega)
                        generalize f[n] = y at *
                        cases e1 : decide (y.says = a.says) with
                        | false =>
                          have on := on0 (by unfold shB; rw [e1]; simp)
                          repeat (first | refine tr_seq_k fun _ _ => ?_ | (refine tr_region ?_; simp only [go_sem, List.getElem?_toArray, Nat.reduceEqDiff, Nat.reduceLT, ↓reduceIte, q3]) | refine k_of (by assumption) ?_)
                          refine tr_cond rfl (fun ht => ?_) (fun hf => ?_)
                          · repeat (first | refine tr_seq_k fun _ _ => ?_ | (refine tr_drawC (id := 30) follows 10000 (by kernel_rfl) ?_; simp only [go_sem, reduceCtorEq, Nat.reduceEqDiff, Nat.reduceLT, ↓reduceIte, ixf, ixa, atC, e1]) | refine k_of (by assumption) ?_ | refine tr_block ?_ | (refine tr_skip ?_; try simp only [ex_seq]))
                            refine tr_cond rfl (fun ht => ?_) (fun hf => ?_)
                            · cases ht
                            · repeat (first | (refine tr_region ?_; simp only [go_sem, Nat.reduceEqDiff, Nat.reduceLT, ↓reduceIte, ws3]) | refine k_of (by assumption) ?_ | (refine tr_skip ?_; try simp only [ex_seq, ex_block]))
                              rw [← on]
                              exact hK3 (n + 1) _ _ hnl ⟨⟨rfl, rfl, rfl, rfl, rfl, rfl, rfl, rfl, rfl, trivial⟩, Keep.refl _, (by simp only [lowF]; rfl), rfl, Nat.le_refl _, Nat.le_refl _⟩ (by omega)
                          · cases hf
                        | true =>
                          cases e2 : decide (y.pred = a.pred) with
                          | false =>
                            have on := on0 (by unfold shB; rw [e2]; simp)
                            repeat (first | refine tr_seq_k fun _ _ => ?_ | (refine tr_region ?_; simp only [go_sem, List.getElem?_toArray, Nat.reduceEqDiff, Nat.reduceLT, ↓reduceIte, q3]) | refine k_of (by assumption) ?_)
                            refine tr_cond rfl (fun ht => ?_) (fun hf => ?_)
                            · repeat (first | refine tr_seq_k fun _ _ => ?_ | (refine tr_drawC (id := 30) follows 10000 (by kernel_rfl) ?_; simp only [go_sem, reduceCtorEq, Nat.reduceEqDiff, Nat.reduceLT, ↓reduceIte, ixf, ixa, atC, e1, e2]) | refine k_of (by assumption) ?_ | refine tr_block ?_ | (refine tr_skip ?_; try simp only [ex_seq]))
                              refine tr_cond rfl (fun ht => ?_) (fun hf => ?_)
                              · cases ht
                              · repeat (first | (refine tr_region ?_; simp only [go_sem, Nat.reduceEqDiff, Nat.reduceLT, ↓reduceIte, ws3]) | refine k_of (by assumption) ?_ | (refine tr_skip ?_; try simp only [ex_seq, ex_block]))
                                rw [← on]
                                exact hK3 (n + 1) _ _ hnl ⟨⟨rfl, rfl, rfl, rfl, rfl, rfl, rfl, rfl, rfl, trivial⟩, Keep.refl _, (by simp only [lowF]; rfl), rfl, Nat.le_refl _, Nat.le_refl _⟩ (by omega)
                            · cases hf
                          | true =>
                            cases e3 : decide (y.n = a.n) with
                            | false =>
                              have on := on0 (by unfold shB; rw [e3]; simp)
                              repeat (first | refine tr_seq_k fun _ _ => ?_ | (refine tr_region ?_; simp only [go_sem, List.getElem?_toArray, Nat.reduceEqDiff, Nat.reduceLT, ↓reduceIte, q3]) | refine k_of (by assumption) ?_)
                              refine tr_cond rfl (fun ht => ?_) (fun hf => ?_)
                              · repeat (first | refine tr_seq_k fun _ _ => ?_ | (refine tr_drawC (id := 30) follows 10000 (by kernel_rfl) ?_; simp only [go_sem, reduceCtorEq, Nat.reduceEqDiff, Nat.reduceLT, ↓reduceIte, ixf, ixa, atC, e1, e2, e3]) | refine k_of (by assumption) ?_ | refine tr_block ?_ | (refine tr_skip ?_; try simp only [ex_seq]))
                                refine tr_cond rfl (fun ht => ?_) (fun hf => ?_)
                                · cases ht
                                · repeat (first | (refine tr_region ?_; simp only [go_sem, Nat.reduceEqDiff, Nat.reduceLT, ↓reduceIte, ws3]) | refine k_of (by assumption) ?_ | (refine tr_skip ?_; try simp only [ex_seq, ex_block]))
                                  rw [← on]
                                  exact hK3 (n + 1) _ _ hnl ⟨⟨rfl, rfl, rfl, rfl, rfl, rfl, rfl, rfl, rfl, trivial⟩, Keep.refl _, (by simp only [lowF]; rfl), rfl, Nat.le_refl _, Nat.le_refl _⟩ (by omega)
                              · cases hf
                            | true =>
                              have on := on1 (by unfold shB; rw [e1, e2, e3]; rfl)
                              repeat (first | refine tr_seq_k fun _ _ => ?_ | (refine tr_region ?_; simp only [go_sem, List.getElem?_toArray, Nat.reduceEqDiff, Nat.reduceLT, ↓reduceIte, q3]) | refine k_of (by assumption) ?_)
                              refine tr_cond rfl (fun ht => ?_) (fun hf => ?_)
                              · repeat (first | refine tr_seq_k fun _ _ => ?_ | (refine tr_drawC (id := 30) follows 10000 (by kernel_rfl) ?_; simp only [go_sem, reduceCtorEq, Nat.reduceEqDiff, Nat.reduceLT, ↓reduceIte, ixf, ixa, atC, e1, e2, e3]) | refine k_of (by assumption) ?_ | refine tr_block ?_ | (refine tr_skip ?_; try simp only [ex_seq]))
                                refine tr_cond rfl (fun ht => ?_) (fun hf => ?_)
                                · repeat (first | (refine tr_region ?_; simp only [go_sem, Nat.reduceEqDiff, Nat.reduceLT, ↓reduceIte, wc, ws3]) | refine k_of (by assumption) ?_)
                                  rw [← on]
                                  exact hK3 (n + 1) _ _ hnl ⟨⟨rfl, rfl, rfl, rfl, rfl, rfl, rfl, rfl, rfl, trivial⟩, Keep.refl _, (by simp only [lowF]; rfl), rfl, Nat.le_refl _, Nat.le_refl _⟩ (by omega)
                                · cases hf
                              · cases hf
                      · have q3 : decide ((n : Int) < (f.length : Nat)) = false := decide_eq_false (by omega)
                        obtain rfl : n = f.length := by omega
                        rw [List.take_length, f4a]
                        have one1 : decide (((1 : Nat) : Int) = 1) = true := by decide
                        repeat (first | refine tr_seq_k fun _ _ => ?_ | (refine tr_region ?_; simp only [go_sem, List.getElem?_toArray, Nat.reduceEqDiff, Nat.reduceLT, ↓reduceIte, q3]) | refine k_of (by assumption) ?_)
                        refine tr_cond rfl (fun ht => ?_) (fun hf => ?_)
                        · cases ht
                        · repeat (first | refine tr_seq_k fun _ _ => ?_ | (refine tr_region ?_; simp only [go_sem, Nat.reduceEqDiff, Nat.reduceLT, Nat.reduceLeDiff, ↓reduceIte, ixa, atC]) | (refine call_of (cD) ?_ ?_; (first | rfl | simp only [go_sem, reduceCtorEq, Nat.reduceEqDiff, Nat.reduceLT, Nat.reduceLeDiff, Nat.reduceAdd, Nat.reduceMul, Nat.reduceSub, Nat.reduceBEq, ↓reduceIte, ixa, atC, shut_col]); simp only [go_sem]) | refine k_of (by assumption) ?_ | refine tr_block ?_ | (refine tr_exit ?_; try simp only [ex_seq_exit, ex_block_exit, ex_seq, ↓reduceIte]))
                          refine tr_loop_k (σ := Nat) (fun n => [(1, .ptr 0 0), (3, .c (slC atC eF f)), (4, .c (slC stC eC c)), (7, .c (slC clsC C.isEmpty C)), (8, iA i), (9, .c (slC atC true A)), (10, iA k), (11, iA ((1 : Nat) : Int)), (13, slS false D), (14, iA n)]) (fun _ => ⟨[⟨false, [.c (slC stC p.e1 p.prin), .c (slC prC p.e2 p.preds), .c (slC clC p.e3 p.clears), iA p.quota, iA p.budget, .c (slC ruC p.e4 p.rules), .c (slC grC p.e5 p.grants)]⟩], []⟩) (fun n => n ≤ D.length) (fun n => D.length - n) 0 (Nat.zero_le _) ⟨rfl, rfl, rfl, rfl, rfl, rfl, rfl, rfl, rfl, rfl, trivial⟩ rfl ?_
                          rintro n hn K4 hK4
                          by_cases hnl : n < D.length
                          · have q4 : decide ((n : Int) < (D.length : Nat)) = true := decide_eq_true (by omega)
                            have ws4 := wrap_succ (show n ≤ 1000000000 by omega)
                            have ixd := idxS (ex := false) hnl
                            have hc1 := hcd _ (List.getElem_mem hnl)
                            generalize D[n] = d at *
                            repeat (first | refine tr_seq_k fun _ _ => ?_ | (refine tr_region ?_; simp only [go_sem, List.getElem?_toArray, Nat.reduceEqDiff, Nat.reduceLT, ↓reduceIte, q4]) | refine k_of (by assumption) ?_)
                            refine tr_cond rfl (fun ht => ?_) (fun hf => ?_)
                            · repeat (first | refine tr_seq_k fun _ _ => ?_ | (refine tr_region ?_; simp only [go_sem, Nat.reduceEqDiff, Nat.reduceLT, ↓reduceIte]) | refine k_of (by assumption) ?_ | refine tr_block ?_ | (refine tr_skip ?_; try simp only [ex_seq]))
                              refine tr_loop_k (σ := Nat) (fun j => [(1, .ptr 0 0), (3, .c (slC atC eF f)), (4, .c (slC stC eC c)), (7, .c (slC clsC C.isEmpty C)), (8, iA i), (9, .c (slC atC true A)), (10, iA k), (11, iA ((1 : Nat) : Int)), (13, slS false D), (14, iA n), (15, iA (((c.take j).countP (fun y => decide (y = d)) : Nat))), (16, iA j)]) (fun _ => ⟨[⟨false, [.c (slC stC p.e1 p.prin), .c (slC prC p.e2 p.preds), .c (slC clC p.e3 p.clears), iA p.quota, iA p.budget, .c (slC ruC p.e4 p.rules), .c (slC grC p.e5 p.grants)]⟩], []⟩) (fun j => j ≤ c.length) (fun j => c.length - j) 0 (Nat.zero_le _) ⟨rfl, rfl, rfl, rfl, rfl, rfl, rfl, rfl, rfl, rfl, rfl, rfl, trivial⟩ rfl ?_
                              rintro j hj K5 hK5
                              by_cases hjl : j < c.length
                              · have q5 : decide ((j : Int) < (c.length : Nat)) = true := decide_eq_true (by omega)
                                have ws5 := wrap_succ (show j ≤ 1000000000 by omega)
                                have ixc := idxS12 (ex := eC) hjl
                                have on0 := countP_miss (P := fun y => decide (y = d)) hjl
                                have on1 := countP_hit (P := fun y => decide (y = d)) hjl
                                have cl : (c.take j).countP (fun y => decide (y = d)) ≤ j := Nat.le_trans List.countP_le_length (by rw [List.length_take]; omega)
                                have wc := wrap_succ (show (c.take j).countP (fun y => decide (y = d)) ≤ 1000000000 by omega)
                                generalize c[j] = z at *
                                cases e1 : decide (z = d) with
                                | false =>
                                  have on := on0 e1
                                  repeat (first | refine tr_seq_k fun _ _ => ?_ | (refine tr_region ?_; simp only [go_sem, List.getElem?_toArray, Nat.reduceEqDiff, Nat.reduceLT, ↓reduceIte, q5]) | refine k_of (by assumption) ?_)
                                  refine tr_cond rfl (fun ht => ?_) (fun hf => ?_)
                                  · repeat (first | refine tr_seq_k fun _ _ => ?_ | (refine tr_drawC (id := 40) follows 10000 (by kernel_rfl) ?_; simp only [go_sem, str_beq, Nat.reduceEqDiff, Nat.reduceLT, ↓reduceIte, ixc, ixd, stC, e1]) | refine k_of (by assumption) ?_ | refine tr_block ?_ | (refine tr_skip ?_; try simp only [ex_seq]))
                                    refine tr_cond rfl (fun ht => ?_) (fun hf => ?_)
                                    · cases ht
                                    · repeat (first | (refine tr_region ?_; simp only [go_sem, Nat.reduceEqDiff, Nat.reduceLT, ↓reduceIte, ws5]) | refine k_of (by assumption) ?_ | (refine tr_skip ?_; try simp only [ex_seq, ex_block]))
                                      rw [← on]
                                      exact hK5 (j + 1) _ _ hjl ⟨⟨rfl, rfl, rfl, rfl, rfl, rfl, rfl, rfl, rfl, rfl, rfl, rfl, trivial⟩, Keep.refl _, (by simp only [lowF]; rfl), rfl, Nat.le_refl _, Nat.le_refl _⟩ (by omega)
                                  · cases hf
                                | true =>
                                  have on := on1 e1
                                  repeat (first | refine tr_seq_k fun _ _ => ?_ | (refine tr_region ?_; simp only [go_sem, List.getElem?_toArray, Nat.reduceEqDiff, Nat.reduceLT, ↓reduceIte, q5]) | refine k_of (by assumption) ?_)
                                  refine tr_cond rfl (fun ht => ?_) (fun hf => ?_)
                                  · repeat (first | refine tr_seq_k fun _ _ => ?_ | (refine tr_drawC (id := 40) follows 10000 (by kernel_rfl) ?_; simp only [go_sem, str_beq, Nat.reduceEqDiff, Nat.reduceLT, ↓reduceIte, ixc, ixd, stC, e1]) | refine k_of (by assumption) ?_ | refine tr_block ?_ | (refine tr_skip ?_; try simp only [ex_seq]))
                                    refine tr_cond rfl (fun ht => ?_) (fun hf => ?_)
                                    · repeat (first | (refine tr_region ?_; simp only [go_sem, Nat.reduceEqDiff, Nat.reduceLT, ↓reduceIte, wc, ws5]) | refine k_of (by assumption) ?_)
                                      rw [← on]
                                      exact hK5 (j + 1) _ _ hjl ⟨⟨rfl, rfl, rfl, rfl, rfl, rfl, rfl, rfl, rfl, rfl, rfl, rfl, trivial⟩, Keep.refl _, (by simp only [lowF]; rfl), rfl, Nat.le_refl _, Nat.le_refl _⟩ (by omega)
                                    · cases hf
                                  · cases hf
                              · have q5 : decide ((j : Int) < (c.length : Nat)) = false := decide_eq_false (by omega)
                                obtain rfl : j = c.length := by omega
                                rw [List.take_length, hc1]
                                repeat (first | refine tr_seq_k fun _ _ => ?_ | (refine tr_region ?_; simp only [go_sem, List.getElem?_toArray, Nat.reduceEqDiff, Nat.reduceLT, ↓reduceIte, q5]) | refine k_of (by assumption) ?_)
                                refine tr_cond rfl (fun ht => ?_) (fun hf => ?_)
                                · cases ht
                                · repeat (first | refine tr_seq_k fun _ _ => ?_ | (refine tr_region ?_; simp only [go_sem, Nat.reduceEqDiff, Nat.reduceLT, ↓reduceIte, one1]) | refine k_of (by assumption) ?_ | (refine tr_exit ?_; try simp only [ex_seq_exit, ex_block_exit, ex_seq, ↓reduceIte]))
                                  refine tr_cond rfl (fun ht => ?_) (fun hf => ?_)
                                  · cases ht
                                  · repeat (first | (refine tr_region ?_; simp only [go_sem, Nat.reduceEqDiff, Nat.reduceLT, ↓reduceIte, ws4]) | refine k_of (by assumption) ?_ | (refine tr_skip ?_; try simp only [ex_seq, ex_block]))
                                    exact hK4 (n + 1) _ _ hnl ⟨⟨rfl, rfl, rfl, rfl, rfl, rfl, rfl, rfl, rfl, rfl, trivial⟩, Keep.refl _, (by simp only [lowF]; rfl), rfl, Nat.le_refl _, Nat.le_refl _⟩ (by omega)
                            · cases hf
                          · have q4 : decide ((n : Int) < (D.length : Nat)) = false := decide_eq_false (by omega)
                            repeat (first | refine tr_seq_k fun _ _ => ?_ | (refine tr_region ?_; simp only [go_sem, List.getElem?_toArray, Nat.reduceEqDiff, Nat.reduceLT, ↓reduceIte, q4]) | refine k_of (by assumption) ?_)
                            refine tr_cond rfl (fun ht => ?_) (fun hf => ?_)
                            · cases ht
                            · repeat (first | refine tr_seq_k fun _ _ => ?_ | (refine tr_region ?_; simp only [go_sem, Nat.reduceEqDiff, Nat.reduceLT, ↓reduceIte, one1]) | refine k_of (by assumption) ?_ | (refine tr_exit ?_; try simp only [ex_seq_exit, ex_block_exit, ex_seq, ↓reduceIte]))
                              refine tr_cond rfl (fun ht => ?_) (fun hf => ?_)
                              · cases ht
                              · repeat (first | (refine tr_region ?_; simp only [go_sem, Nat.reduceEqDiff, Nat.reduceLT, ↓reduceIte, ws2]) | refine k_of (by assumption) ?_ | (refine tr_skip ?_; try simp only [ex_seq, ex_block]))
                                exact hK2 (k + 1) _ _ hkl ⟨⟨rfl, rfl, rfl, rfl, rfl, rfl, rfl, trivial⟩, Keep.refl _, (by simp only [lowF]; rfl), rfl, Nat.le_refl _, Nat.le_refl _⟩ (by omega)
                    · cases hf
                  · have q2 : decide ((k : Int) < (A.length : Nat)) = false := decide_eq_false (by omega)
                    repeat (first | refine tr_seq_k fun _ _ => ?_ | (refine tr_region ?_; simp only [go_sem, List.getElem?_toArray, Nat.reduceEqDiff, Nat.reduceLT, ↓reduceIte, q2]) | refine k_of (by assumption) ?_)
                    refine tr_cond rfl (fun ht => ?_) (fun hf => ?_)
                    · cases ht
                    · repeat (first | (refine tr_region ?_; simp only [go_sem, Nat.reduceEqDiff, Nat.reduceLT, ↓reduceIte, ws]) | refine k_of (by assumption) ?_ | (refine tr_exit ?_; try simp only [ex_seq_exit, ex_block_exit, ex_seq, ex_block, ↓reduceIte]))
                      exact hK (i + 1) _ _ hil ⟨⟨rfl, rfl, rfl, rfl, rfl, trivial⟩, Keep.of (eh := []) (ew := []) rfl rfl, rfl, rfl, Nat.le_refl _, Nat.zero_le _⟩ (by omega)
                · cases hf
              · repeat (first | refine tr_seq_k fun _ _ => ?_ | (refine tr_region ?_; simp only [go_sem, List.getElem?_toArray, Nat.reduceEqDiff, Nat.reduceLT, ↓reduceIte, q1]) | refine k_of (by assumption) ?_)
                refine tr_cond rfl (fun ht => ?_) (fun hf => ?_)
                · repeat (first | refine tr_seq_k fun _ _ => ?_ | (refine tr_region ?_; simp only [go_sem, Nat.reduceEqDiff, Nat.reduceLT, ↓reduceIte]) | (refine tr_draw (id := 22) follows 10000 [5, 11] [0, 1, 2, 3, 4, 6, 7, 8, 9, 10, 5, 11, 12] (by kernel_rfl) ?_; simp only [go_sem, List.getElem?_toArray, reduceCtorEq, Nat.reduceEqDiff, Nat.reduceLT, Nat.reduceLeDiff, Nat.reduceBEq, ↓reduceIte, Bool.true_or, Bool.false_or, ix, clsC, b1, one_max, hap]) | refine k_of (by assumption) ?_ | refine tr_block ?_ | (refine tr_skip ?_; try simp only [ex_seq]))
                  refine tr_loop_k (σ := Nat) (fun k => [(1, .ptr 0 0), (3, .c (slC atC eF f)), (4, .c (slC stC eC c)), (7, .c (slC clsC C.isEmpty C)), (8, iA i), (9, .own 0 A.length (A.flatMap atC)), (10, iA k)]) (fun _ => ⟨[⟨false, [.c (slC stC p.e1 p.prin), .c (slC prC p.e2 p.preds), .c (slC clC p.e3 p.clears), iA p.quota, iA p.budget, .c (slC ruC p.e4 p.rules), .c (slC grC p.e5 p.grants)]⟩], [⟨A.length, 33, 11⟩]⟩) (fun k => k ≤ A.length) (fun k => A.length - k) 0 (Nat.zero_le _) ⟨rfl, rfl, rfl, rfl, rfl, rfl, rfl, trivial⟩ rfl ?_
                  rintro k hk K2 hK2
                  by_cases hkl : k < A.length
                  · have q2 : decide ((k : Int) < (A.length : Nat)) = true := decide_eq_true (by omega)
                    have ws2 := wrap_succ (show k ≤ 1000000000 by omega)
                    have ixa := idxAv (av := .own 0 A.length (A.flatMap atC)) rfl hkl
                    have haL := hAm _ (List.getElem_mem hkl)
                    generalize A[k] = a at *
                    have f4a := f4 a haL
                    have cD := r3consts_does (hao a haL)
                    have hcd := hcm a haL
                    have hDl : (pnames a false).length ≤ 4 := Nat.le_trans (pnamesC_len a a.count) a.count_le
                    generalize pnames a false = D at *
                    repeat (first | refine tr_seq_k fun _ _ => ?_ | (refine tr_region ?_; simp only [go_sem, List.getElem?_toArray, Nat.reduceEqDiff, Nat.reduceLT, ↓reduceIte, q2]) | refine k_of (by assumption) ?_)
                    refine tr_cond rfl (fun ht => ?_) (fun hf => ?_)
                    · repeat (first | refine tr_seq_k fun _ _ => ?_ | (refine tr_region ?_; simp only [go_sem, Nat.reduceEqDiff, Nat.reduceLT, ↓reduceIte]) | refine k_of (by assumption) ?_ | refine tr_block ?_ | (refine tr_skip ?_; try simp only [ex_seq]))
                      refine tr_loop_k (σ := Nat) (fun n => [(1, .ptr 0 0), (3, .c (slC atC eF f)), (4, .c (slC stC eC c)), (7, .c (slC clsC C.isEmpty C)), (8, iA i), (9, .own 0 A.length (A.flatMap atC)), (10, iA k), (11, iA (((f.take n).countP (shB a) : Nat))), (12, iA n)]) (fun _ => ⟨[⟨false, [.c (slC stC p.e1 p.prin), .c (slC prC p.e2 p.preds), .c (slC clC p.e3 p.clears), iA p.quota, iA p.budget, .c (slC ruC p.e4 p.rules), .c (slC grC p.e5 p.grants)]⟩], [⟨A.length, 33, 11⟩]⟩) (fun n => n ≤ f.length) (fun n => f.length - n) 0 (Nat.zero_le _) ⟨rfl, rfl, rfl, rfl, rfl, rfl, rfl, rfl, rfl, trivial⟩ rfl ?_
                      rintro n hn K3 hK3
                      by_cases hnl : n < f.length
                      · have q3 : decide ((n : Int) < (f.length : Nat)) = true := decide_eq_true (by omega)
                        have ws3 := wrap_succ (show n ≤ 1000000000 by omega)
                        have ixf := idxA12 (ex := eF) hnl
                        have on0 := countP_miss (P := shB a) hnl
                        have on1 := countP_hit (P := shB a) hnl
                        have cl : (f.take n).countP (shB a) ≤ n := Nat.le_trans List.countP_le_length (by rw [List.length_take]; omega)
                        have wc := wrap_succ (show (f.take n).countP (shB a) ≤ 1000000000 by omega)
                        generalize f[n] = y at *
                        cases e1 : decide (y.says = a.says) with
                        | false =>
                          have on := on0 (by unfold shB; rw [e1]; simp)
                          repeat (first | refine tr_seq_k fun _ _ => ?_ | (refine tr_region ?_; simp only [go_sem, List.getElem?_toArray, Nat.reduceEqDiff, Nat.reduceLT, ↓reduceIte, q3]) | refine k_of (by assumption) ?_)
                          refine tr_cond rfl (fun ht => ?_) (fun hf => ?_)
                          · repeat (first | refine tr_seq_k fun _ _ => ?_ | (refine tr_drawC (id := 30) follows 10000 (by kernel_rfl) ?_; simp only [go_sem, reduceCtorEq, Nat.reduceEqDiff, Nat.reduceLT, ↓reduceIte, ixf, ixa, atC, e1]) | refine k_of (by assumption) ?_ | refine tr_block ?_ | (refine tr_skip ?_; try simp only [ex_seq]))
                            refine tr_cond rfl (fun ht => ?_) (fun hf => ?_)
                            · cases ht
                            · repeat (first | (refine tr_region ?_; simp only [go_sem, Nat.reduceEqDiff, Nat.reduceLT, ↓reduceIte, ws3]) | refine k_of (by assumption) ?_ | (refine tr_skip ?_; try simp only [ex_seq, ex_block]))
                              rw [← on]
                              exact hK3 (n + 1) _ _ hnl ⟨⟨rfl, rfl, rfl, rfl, rfl, rfl, rfl, rfl, rfl, trivial⟩, Keep.refl _, (by simp only [lowF]; rfl), rfl, Nat.le_refl _, Nat.le_refl _⟩ (by omega)
                          · cases hf
                        | true =>
                          cases e2 : decide (y.pred = a.pred) with
                          | false =>
                            have on := on0 (by unfold shB; rw [e2]; simp)
                            repeat (first | refine tr_seq_k fun _ _ => ?_ | (refine tr_region ?_; simp only [go_sem, List.getElem?_toArray, Nat.reduceEqDiff, Nat.reduceLT, ↓reduceIte, q3]) | refine k_of (by assumption) ?_)
                            refine tr_cond rfl (fun ht => ?_) (fun hf => ?_)
                            · repeat (first | refine tr_seq_k fun _ _ => ?_ | (refine tr_drawC (id := 30) follows 10000 (by kernel_rfl) ?_; simp only [go_sem, reduceCtorEq, Nat.reduceEqDiff, Nat.reduceLT, ↓reduceIte, ixf, ixa, atC, e1, e2]) | refine k_of (by assumption) ?_ | refine tr_block ?_ | (refine tr_skip ?_; try simp only [ex_seq]))
                              refine tr_cond rfl (fun ht => ?_) (fun hf => ?_)
                              · cases ht
                              · repeat (first | (refine tr_region ?_; simp only [go_sem, Nat.reduceEqDiff, Nat.reduceLT, ↓reduceIte, ws3]) | refine k_of (by assumption) ?_ | (refine tr_skip ?_; try simp only [ex_seq, ex_block]))
                                rw [← on]
                                exact hK3 (n + 1) _ _ hnl ⟨⟨rfl, rfl, rfl, rfl, rfl, rfl, rfl, rfl, rfl, trivial⟩, Keep.refl _, (by simp only [lowF]; rfl), rfl, Nat.le_refl _, Nat.le_refl _⟩ (by omega)
                            · cases hf
                          | true =>
                            cases e3 : decide (y.n = a.n) with
                            | false =>
                              have on := on0 (by unfold shB; rw [e3]; simp)
                              repeat (first | refine tr_seq_k fun _ _ => ?_ | (refine tr_region ?_; simp only [go_sem, List.getElem?_toArray, Nat.reduceEqDiff, Nat.reduceLT, ↓reduceIte, q3]) | refine k_of (by assumption) ?_)
                              refine tr_cond rfl (fun ht => ?_) (fun hf => ?_)
                              · repeat (first | refine tr_seq_k fun _ _ => ?_ | (refine tr_drawC (id := 30) follows 10000 (by kernel_rfl) ?_; simp only [go_sem, reduceCtorEq, Nat.reduceEqDiff, Nat.reduceLT, ↓reduceIte, ixf, ixa, atC, e1, e2, e3]) | refine k_of (by assumption) ?_ | refine tr_block ?_ | (refine tr_skip ?_; try simp only [ex_seq]))
                                refine tr_cond rfl (fun ht => ?_) (fun hf => ?_)
                                · cases ht
                                · repeat (first | (refine tr_region ?_; simp only [go_sem, Nat.reduceEqDiff, Nat.reduceLT, ↓reduceIte, ws3]) | refine k_of (by assumption) ?_ | (refine tr_skip ?_; try simp only [ex_seq, ex_block]))
                                  rw [← on]
                                  exact hK3 (n + 1) _ _ hnl ⟨⟨rfl, rfl, rfl, rfl, rfl, rfl, rfl, rfl, rfl, trivial⟩, Keep.refl _, (by simp only [lowF]; rfl), rfl, Nat.le_refl _, Nat.le_refl _⟩ (by omega)
                              · cases hf
                            | true =>
                              have on := on1 (by unfold shB; rw [e1, e2, e3]; rfl)
                              repeat (first | refine tr_seq_k fun _ _ => ?_ | (refine tr_region ?_; simp only [go_sem, List.getElem?_toArray, Nat.reduceEqDiff, Nat.reduceLT, ↓reduceIte, q3]) | refine k_of (by assumption) ?_)
                              refine tr_cond rfl (fun ht => ?_) (fun hf => ?_)
                              · repeat (first | refine tr_seq_k fun _ _ => ?_ | (refine tr_drawC (id := 30) follows 10000 (by kernel_rfl) ?_; simp only [go_sem, reduceCtorEq, Nat.reduceEqDiff, Nat.reduceLT, ↓reduceIte, ixf, ixa, atC, e1, e2, e3]) | refine k_of (by assumption) ?_ | refine tr_block ?_ | (refine tr_skip ?_; try simp only [ex_seq]))
                                refine tr_cond rfl (fun ht => ?_) (fun hf => ?_)
                                · repeat (first | (refine tr_region ?_; simp only [go_sem, Nat.reduceEqDiff, Nat.reduceLT, ↓reduceIte, wc, ws3]) | refine k_of (by assumption) ?_)
                                  rw [← on]
                                  exact hK3 (n + 1) _ _ hnl ⟨⟨rfl, rfl, rfl, rfl, rfl, rfl, rfl, rfl, rfl, trivial⟩, Keep.refl _, (by simp only [lowF]; rfl), rfl, Nat.le_refl _, Nat.le_refl _⟩ (by omega)
                                · cases hf
                              · cases hf
                      · have q3 : decide ((n : Int) < (f.length : Nat)) = false := decide_eq_false (by omega)
                        obtain rfl : n = f.length := by omega
                        rw [List.take_length, f4a]
                        have one1 : decide (((1 : Nat) : Int) = 1) = true := by decide
                        repeat (first | refine tr_seq_k fun _ _ => ?_ | (refine tr_region ?_; simp only [go_sem, List.getElem?_toArray, Nat.reduceEqDiff, Nat.reduceLT, ↓reduceIte, q3]) | refine k_of (by assumption) ?_)
                        refine tr_cond rfl (fun ht => ?_) (fun hf => ?_)
                        · cases ht
                        · repeat (first | refine tr_seq_k fun _ _ => ?_ | (refine tr_region ?_; simp only [go_sem, Nat.reduceEqDiff, Nat.reduceLT, Nat.reduceLeDiff, ↓reduceIte, ixa, atC]) | (refine call_of (cD) ?_ ?_; (first | rfl | simp only [go_sem, reduceCtorEq, Nat.reduceEqDiff, Nat.reduceLT, Nat.reduceLeDiff, Nat.reduceAdd, Nat.reduceMul, Nat.reduceSub, Nat.reduceBEq, ↓reduceIte, ixa, atC, shut_col]); simp only [go_sem]) | refine k_of (by assumption) ?_ | refine tr_block ?_ | (refine tr_exit ?_; try simp only [ex_seq_exit, ex_block_exit, ex_seq, ↓reduceIte]))
                          refine tr_loop_k (σ := Nat) (fun n => [(1, .ptr 0 0), (3, .c (slC atC eF f)), (4, .c (slC stC eC c)), (7, .c (slC clsC C.isEmpty C)), (8, iA i), (9, .own 0 A.length (A.flatMap atC)), (10, iA k), (11, iA ((1 : Nat) : Int)), (13, slS false D), (14, iA n)]) (fun _ => ⟨[⟨false, [.c (slC stC p.e1 p.prin), .c (slC prC p.e2 p.preds), .c (slC clC p.e3 p.clears), iA p.quota, iA p.budget, .c (slC ruC p.e4 p.rules), .c (slC grC p.e5 p.grants)]⟩], [⟨A.length, 33, 11⟩]⟩) (fun n => n ≤ D.length) (fun n => D.length - n) 0 (Nat.zero_le _) ⟨rfl, rfl, rfl, rfl, rfl, rfl, rfl, rfl, rfl, rfl, trivial⟩ rfl ?_
                          rintro n hn K4 hK4
                          by_cases hnl : n < D.length
                          · have q4 : decide ((n : Int) < (D.length : Nat)) = true := decide_eq_true (by omega)
                            have ws4 := wrap_succ (show n ≤ 1000000000 by omega)
                            have ixd := idxS (ex := false) hnl
                            have hc1 := hcd _ (List.getElem_mem hnl)
                            generalize D[n] = d at *
                            repeat (first | refine tr_seq_k fun _ _ => ?_ | (refine tr_region ?_; simp only [go_sem, List.getElem?_toArray, Nat.reduceEqDiff, Nat.reduceLT, ↓reduceIte, q4]) | refine k_of (by assumption) ?_)
                            refine tr_cond rfl (fun ht => ?_) (fun hf => ?_)
                            · repeat (first | refine tr_seq_k fun _ _ => ?_ | (refine tr_region ?_; simp only [go_sem, Nat.reduceEqDiff, Nat.reduceLT, ↓reduceIte]) | refine k_of (by assumption) ?_ | refine tr_block ?_ | (refine tr_skip ?_; try simp only [ex_seq]))
                              refine tr_loop_k (σ := Nat) (fun j => [(1, .ptr 0 0), (3, .c (slC atC eF f)), (4, .c (slC stC eC c)), (7, .c (slC clsC C.isEmpty C)), (8, iA i), (9, .own 0 A.length (A.flatMap atC)), (10, iA k), (11, iA ((1 : Nat) : Int)), (13, slS false D), (14, iA n), (15, iA (((c.take j).countP (fun y => decide (y = d)) : Nat))), (16, iA j)]) (fun _ => ⟨[⟨false, [.c (slC stC p.e1 p.prin), .c (slC prC p.e2 p.preds), .c (slC clC p.e3 p.clears), iA p.quota, iA p.budget, .c (slC ruC p.e4 p.rules), .c (slC grC p.e5 p.grants)]⟩], [⟨A.length, 33, 11⟩]⟩) (fun j => j ≤ c.length) (fun j => c.length - j) 0 (Nat.zero_le _) ⟨rfl, rfl, rfl, rfl, rfl, rfl, rfl, rfl, rfl, rfl, rfl, rfl, trivial⟩ rfl ?_
                              rintro j hj K5 hK5
                              by_cases hjl : j < c.length
                              · have q5 : decide ((j : Int) < (c.length : Nat)) = true := decide_eq_true (by omega)
                                have ws5 := wrap_succ (show j ≤ 1000000000 by omega)
                                have ixc := idxS12 (ex := eC) hjl
                                have on0 := countP_miss (P := fun y => decide (y = d)) hjl
                                have on1 := countP_hit (P := fun y => decide (y = d)) hjl
                                have cl : (c.take j).countP (fun y => decide (y = d)) ≤ j := Nat.le_trans List.countP_le_length (by rw [List.length_take]; omega)
                                have wc := wrap_succ (show (c.take j).countP (fun y => decide (y = d)) ≤ 1000000000 by omega)
                                generalize c[j] = z at *
                                cases e1 : decide (z = d) with
                                | false =>
                                  have on := on0 e1
                                  repeat (first | refine tr_seq_k fun _ _ => ?_ | (refine tr_region ?_; simp only [go_sem, List.getElem?_toArray, Nat.reduceEqDiff, Nat.reduceLT, ↓reduceIte, q5]) | refine k_of (by assumption) ?_)
                                  refine tr_cond rfl (fun ht => ?_) (fun hf => ?_)
                                  · repeat (first | refine tr_seq_k fun _ _ => ?_ | (refine tr_drawC (id := 40) follows 10000 (by kernel_rfl) ?_; simp only [go_sem, str_beq, Nat.reduceEqDiff, Nat.reduceLT, ↓reduceIte, ixc, ixd, stC, e1]) | refine k_of (by assumption) ?_ | refine tr_block ?_ | (refine tr_skip ?_; try simp only [ex_seq]))
                                    refine tr_cond rfl (fun ht => ?_) (fun hf => ?_)
                                    · cases ht
                                    · repeat (first | (refine tr_region ?_; simp only [go_sem, Nat.reduceEqDiff, Nat.reduceLT, ↓reduceIte, ws5]) | refine k_of (by assumption) ?_ | (refine tr_skip ?_; try simp only [ex_seq, ex_block]))
                                      rw [← on]
                                      exact hK5 (j + 1) _ _ hjl ⟨⟨rfl, rfl, rfl, rfl, rfl, rfl, rfl, rfl, rfl, rfl, rfl, rfl, trivial⟩, Keep.refl _, (by simp only [lowF]; rfl), rfl, Nat.le_refl _, Nat.le_refl _⟩ (by omega)
                                  · cases hf
                                | true =>
                                  have on := on1 e1
                                  repeat (first | refine tr_seq_k fun _ _ => ?_ | (refine tr_region ?_; simp only [go_sem, List.getElem?_toArray, Nat.reduceEqDiff, Nat.reduceLT, ↓reduceIte, q5]) | refine k_of (by assumption) ?_)
                                  refine tr_cond rfl (fun ht => ?_) (fun hf => ?_)
                                  · repeat (first | refine tr_seq_k fun _ _ => ?_ | (refine tr_drawC (id := 40) follows 10000 (by kernel_rfl) ?_; simp only [go_sem, str_beq, Nat.reduceEqDiff, Nat.reduceLT, ↓reduceIte, ixc, ixd, stC, e1]) | refine k_of (by assumption) ?_ | refine tr_block ?_ | (refine tr_skip ?_; try simp only [ex_seq]))
                                    refine tr_cond rfl (fun ht => ?_) (fun hf => ?_)
                                    · repeat (first | (refine tr_region ?_; simp only [go_sem, Nat.reduceEqDiff, Nat.reduceLT, ↓reduceIte, wc, ws5]) | refine k_of (by assumption) ?_)
                                      rw [← on]
                                      exact hK5 (j + 1) _ _ hjl ⟨⟨rfl, rfl, rfl, rfl, rfl, rfl, rfl, rfl, rfl, rfl, rfl, rfl, trivial⟩, Keep.refl _, (by simp only [lowF]; rfl), rfl, Nat.le_refl _, Nat.le_refl _⟩ (by omega)
                                    · cases hf
                                  · cases hf
                              · have q5 : decide ((j : Int) < (c.length : Nat)) = false := decide_eq_false (by omega)
                                obtain rfl : j = c.length := by omega
                                rw [List.take_length, hc1]
                                repeat (first | refine tr_seq_k fun _ _ => ?_ | (refine tr_region ?_; simp only [go_sem, List.getElem?_toArray, Nat.reduceEqDiff, Nat.reduceLT, ↓reduceIte, q5]) | refine k_of (by assumption) ?_)
                                refine tr_cond rfl (fun ht => ?_) (fun hf => ?_)
                                · cases ht
                                · repeat (first | refine tr_seq_k fun _ _ => ?_ | (refine tr_region ?_; simp only [go_sem, Nat.reduceEqDiff, Nat.reduceLT, ↓reduceIte, one1]) | refine k_of (by assumption) ?_ | (refine tr_exit ?_; try simp only [ex_seq_exit, ex_block_exit, ex_seq, ↓reduceIte]))
                                  refine tr_cond rfl (fun ht => ?_) (fun hf => ?_)
                                  · cases ht
                                  · repeat (first | (refine tr_region ?_; simp only [go_sem, Nat.reduceEqDiff, Nat.reduceLT, ↓reduceIte, ws4]) | refine k_of (by assumption) ?_ | (refine tr_skip ?_; try simp only [ex_seq, ex_block]))
                                    exact hK4 (n + 1) _ _ hnl ⟨⟨rfl, rfl, rfl, rfl, rfl, rfl, rfl, rfl, rfl, rfl, trivial⟩, Keep.refl _, (by simp only [lowF]; rfl), rfl, Nat.le_refl _, Nat.le_refl _⟩ (by omega)
                            · cases hf
                          · have q4 : decide ((n : Int) < (D.length : Nat)) = false := decide_eq_false (by omega)
                            repeat (first | refine tr_seq_k fun _ _ => ?_ | (refine tr_region ?_; simp only [go_sem, List.getElem?_toArray, Nat.reduceEqDiff, Nat.reduceLT, ↓reduceIte, q4]) | refine k_of (by assumption) ?_)
                            refine tr_cond rfl (fun ht => ?_) (fun hf => ?_)
                            · cases ht
                            · repeat (first | refine tr_seq_k fun _ _ => ?_ | (refine tr_region ?_; simp only [go_sem, Nat.reduceEqDiff, Nat.reduceLT, ↓reduceIte, one1]) | refine k_of (by assumption) ?_ | (refine tr_exit ?_; try simp only [ex_seq_exit, ex_block_exit, ex_seq, ↓reduceIte]))
                              refine tr_cond rfl (fun ht => ?_) (fun hf => ?_)
                              · cases ht
                              · repeat (first | (refine tr_region ?_; simp only [go_sem, Nat.reduceEqDiff, Nat.reduceLT, ↓reduceIte, ws2]) | refine k_of (by assumption) ?_ | (refine tr_skip ?_; try simp only [ex_seq, ex_block]))
                                exact hK2 (k + 1) _ _ hkl ⟨⟨rfl, rfl, rfl, rfl, rfl, rfl, rfl, trivial⟩, Keep.refl _, (by simp only [lowF]; rfl), rfl, Nat.le_refl _, Nat.le_refl _⟩ (by omega)
                    · cases hf
                  · have q2 : decide ((k : Int) < (A.length : Nat)) = false := decide_eq_false (by omega)
                    repeat (first | refine tr_seq_k fun _ _ => ?_ | (refine tr_region ?_; simp only [go_sem, List.getElem?_toArray, Nat.reduceEqDiff, Nat.reduceLT, ↓reduceIte, q2]) | refine k_of (by assumption) ?_)
                    refine tr_cond rfl (fun ht => ?_) (fun hf => ?_)
                    · cases ht
                    · repeat (first | (refine tr_region ?_; simp only [go_sem, Nat.reduceEqDiff, Nat.reduceLT, ↓reduceIte, ws]) | refine k_of (by assumption) ?_ | (refine tr_exit ?_; try simp only [ex_seq_exit, ex_block_exit, ex_seq, ex_block, ↓reduceIte]))
                      exact hK (i + 1) _ _ hil ⟨⟨rfl, rfl, rfl, rfl, rfl, trivial⟩, Keep.of (eh := []) (ew := [⟨A.length, 33, 11⟩]) rfl rfl, rfl, rfl, Nat.le_refl _, Nat.zero_le _⟩ (by omega)
                · cases hf
            have q1 : decide ((i : Int) < (C.length : Nat)) = false := decide_eq_false (by omega)
            repeat (first | refine tr_seq_k fun _ _ => ?_ | (refine tr_region ?_; simp only [go_sem, List.getElem?_toArray, Nat.reduceEqDiff, Nat.reduceLT, ↓reduceIte, q1]) | refine k_of (by assumption) ?_)
            refine tr_cond rfl (fun ht => ?_) (fun hf => ?_)
            · cases ht
            · repeat (first | refine tr_seq_k fun _ _ => ?_ | (refine tr_region ?_; simp only [go_sem, Nat.reduceEqDiff, Nat.reduceLT, ↓reduceIte]) | refine k_of (by assumption) ?_ | (refine tr_exit ?_; try simp only [ex_seq_exit, ex_block_exit, ex_seq, ↓reduceIte]) | (refine tr_ret ?_; try simp only [ex_seq_ret, ex_block_ret]))
              refine (hQ _ _ [bA true] ?_ (fun m => ?_)).2 <;> simp only [go_sem, Nat.reduceEqDiff, ↓reduceIte, Tryz.f4,]
end Go.Proofs.YtinbfakpjnnagaaGreatDoor
namespace Go.Vs.Ab
open Go.RowKit Go.Maps Go.ChangeShapes Go.WideShapes Go.Deep
theorem Reps.nil {X : Mem} : Reps X [] [] := ⟨rfl, fun i c x h => by simp at h⟩
theorem Reps.cons {X : Mem} {c : AV} {v : Value} {cs : List AV} {vs : List Value} (h : Rep X c v) (k : Reps X cs vs) : Reps X (c :: cs) (v :: vs) :=
  ⟨by simp [k.1], fun i d x h1 h2 => by
    cases i with
    | zero => simp at h1 h2; subst h1 h2; exact h
    | succ i => exact k.2 i d x (by simpa using h1) (by simpa using h2)⟩
theorem RepCs.nil {C : Nat → Nat → Option Value} : RepCs C [] [] := ⟨rfl, fun i c x h => by simp at h⟩
theorem RepCs.cons {C : Nat → Nat → Option Value} {c : CV} {v : Value} {cs : List CV} {vs : List Value} (h : RepC C c v) (k : RepCs C cs vs) : RepCs C (c :: cs) (v :: vs) :=
  ⟨by simp [k.1], fun i d x h1 h2 => by
    cases i with
    | zero => simp at h1 h2; subst h1 h2; exact h
    | succ i => exact k.2 i d x (by simpa using h1) (by simpa using h2)⟩
theorem RepCs.append {C : Nat → Nat → Option Value} {a b : List CV} {x y : List Value} (h : RepCs C a x) (k : RepCs C b y) : RepCs C (a ++ b) (x ++ y) := repcs_append h k
def Dec {T : Type} (d : Nat) (w : World) (ks : List Sh) (enc : T → List CV) (good : T → Prop) : Prop := ∀ cs, all2 (okc d w) ks cs → ∃ x, RepCs (all w).cell (enc x) cs ∧ good x
theorem dec_str {d : Nat} {w : World} {v : Value} (h : okc d w .str v) : ∃ s : ByteArray, RepC (all w).cell (.v (.string s)) v ∧ s.size ≤ maxLen := by
  cases d with
  | zero => exact h.elim
  | succ d => obtain ⟨s, rfl, hs⟩ := h; exact ⟨s, .v rfl, hs⟩
theorem dec_int {d : Nat} {w : World} {v : Value} (h : okc d w .int v) : ∃ n : Int, RepC (all w).cell (.v (.int .i64 n)) v ∧ (Lit.int .i64 n).wf = true := by
  cases d with
  | zero => exact h.elim
  | succ d => obtain ⟨s, rfl, hs⟩ := h; exact ⟨s, .v rfl, hs⟩
theorem dec_bool {d : Nat} {w : World} {v : Value} (h : okc d w .bool v) : ∃ b : Bool, RepC (all w).cell (.v (.bool b)) v := by
  cases d with
  | zero => exact h.elim
  | succ d => obtain ⟨s, rfl⟩ := h; exact ⟨s, .v rfl⟩
theorem rowsC_of {T : Type} {C : Nat → Nat → Option Value} (enc : T → List CV) (good : T → Prop) (k : Nat) : ∀ (n : Nat) (cs : List Value), cs.length = n * k →
    (∀ i, i < n → ∃ x, RepCs C (enc x) ((cs.drop (i * k)).take k) ∧ good x) → ∃ xs : List T, xs.length = n ∧ RepCs C (xs.flatMap enc) cs ∧ ∀ x ∈ xs, good x
  | 0, cs, hl, _ => by
    have : cs = [] := by simpa using hl
    subst this
    exact ⟨[], rfl, RepCs.nil, by simp⟩
  | n + 1, cs, hl, h => by
    obtain ⟨x, hx, hg⟩ := h 0 (by omega)
    rw [Nat.zero_mul, List.drop_zero] at hx
    obtain ⟨xs, h1, h2, h3⟩ := rowsC_of enc good k n (cs.drop k) (by rw [List.length_drop, hl, Nat.add_mul]; omega) (fun i hi => by
      obtain ⟨y, hy, hgy⟩ := h (i + 1) (by omega)
      refine ⟨y, ?_, hgy⟩
      rw [List.drop_drop]
      rwa [Nat.add_mul, Nat.one_mul, Nat.add_comm] at hy)
    refine ⟨x :: xs, by simp [h1], ?_, ?_⟩
    · rw [List.flatMap_cons]
      have := hx.append h2
      rwa [List.take_append_drop] at this
    · intro y hy
      rcases List.mem_cons.1 hy with rfl | hy
      · exact hg
      · exact h3 y hy
theorem dec_sl {T : Type} {d : Nat} {w : World} {es : List Sh} {enc : T → List CV} {good : T → Prop} (hdec : Dec d w es enc good) {v : Value} (h : okc (d + 1) w (.sl es) v) :
    ∃ l : List T, RepC (all w).cell (.sl false l.length (l.flatMap enc)) v ∧ ∀ x ∈ l, good x := by
  obtain ⟨n, cs, h1, h2⟩ := h
  obtain ⟨l, h3, h4, h5⟩ := rowsC_of (C := (all w).cell) enc good es.length n cs h1.1 (fun i hi => hdec _ (h2 i hi))
  refine ⟨l, ?_, h5⟩
  rcases h1.2 with ⟨rfl, h0⟩ | ⟨a, cap, rfl, g3, g4, g5⟩
  · have : l = [] := List.eq_nil_of_length_eq_zero (by omega)
    subst this
    exact .sl (xs := []) rfl (fun i c x h => by simp at h) (Nat.le_refl _) ⟨Nat.zero_le _, fun _ => rfl⟩ (fun e => by cases e) (fun j x hx => by simp at hx)
  · rw [h3]
    refine .sl (xs := cs) h4.1 h4.2 g3 ⟨g4, fun e => by cases e⟩ (fun e => by cases e) (fun j x hx => ?_)
    have h6 := g5 j x hx
    have hl := (List.getElem?_eq_some_iff.1 hx).1
    have h7 := g5 0 (cs[0]'(by omega)) (by simp)
    have hsp := spot_of_add h7
    obtain ⟨g, off, sp⟩ := a
    simp only at hsp
    subst hsp
    rw [add_none] at h6
    exact ⟨g, off, rfl, h6⟩
section
variable {H : Type} {enc : TypeId × Value → H} {P : Program} {w : World} {base b0 : Nat} {spare : Nat → Bool} {held : Bool} {r : Reach} {d : Nat} {t : TypeId} {v : Value} {x : DataW H} {ps : List MemPlace}
theorem open_agg {T : Type} {encT : T → List CV} {good : T → Prop} {fs : Array Field} {ks : List Sh} (ht : P.underlying t = some (.struct fs)) (hs : shapeOf P d t = some ks) (hdec : Dec d w ks encT good) (hval : Value.okWide P w r b0 t v) (hd : DataW.Trod enc P w base spare held t v x ps) :
    ∃ a : T, Rep (all w) (.agg (encT a)) v ∧ good a := by
  obtain ⟨cs, rfl, h⟩ := arg_struct ht hs hval hd
  obtain ⟨a, h1, h2⟩ := hdec cs h
  exact ⟨a, .agg h1, h2⟩
end
def AtOk (a : Atm) : Prop := a.says.size ≤ maxLen ∧ a.pred.size ≤ maxLen ∧ (Lit.int .i64 a.n).wf = true ∧ a.a0.name.size ≤ maxLen ∧ a.a1.name.size ≤ maxLen ∧ a.a2.name.size ≤ maxLen ∧ a.a3.name.size ≤ maxLen
theorem stD {d : Nat} {w : World} : Dec d w [.str] stC (fun s => s.size ≤ maxLen) := fun cs t0 => by
  obtain ⟨c0, r0, rfl, h0, t1⟩ := all2_cons t0
  obtain rfl := all2_nil t1
  obtain ⟨x0, e0, g0⟩ := dec_str h0
  exact ⟨x0, .cons e0 .nil, g0⟩
theorem atD {d : Nat} {w : World} : Dec d w [.str, .str, .int, .bool, .str, .bool, .str, .bool, .str, .bool, .str] atC AtOk := fun cs t0 => by
  obtain ⟨c0, r0, rfl, h0, t1⟩ := all2_cons t0
  obtain ⟨c1, r1, rfl, h1, t2⟩ := all2_cons t1
  obtain ⟨c2, r2, rfl, h2, t3⟩ := all2_cons t2
  obtain ⟨c3, r3, rfl, h3, t4⟩ := all2_cons t3
  obtain ⟨c4, r4, rfl, h4, t5⟩ := all2_cons t4
  obtain ⟨c5, r5, rfl, h5, t6⟩ := all2_cons t5
  obtain ⟨c6, r6, rfl, h6, t7⟩ := all2_cons t6
  obtain ⟨c7, r7, rfl, h7, t8⟩ := all2_cons t7
  obtain ⟨c8, r8, rfl, h8, t9⟩ := all2_cons t8
  obtain ⟨c9, r9, rfl, h9, t10⟩ := all2_cons t9
  obtain ⟨c10, r10, rfl, h10, t11⟩ := all2_cons t10
  obtain rfl := all2_nil t11
  obtain ⟨x0, e0, g0⟩ := dec_str h0
  obtain ⟨x1, e1, g1⟩ := dec_str h1
  obtain ⟨x2, e2, g2⟩ := dec_int h2
  obtain ⟨x3, e3⟩ := dec_bool h3
  obtain ⟨x4, e4, g4⟩ := dec_str h4
  obtain ⟨x5, e5⟩ := dec_bool h5
  obtain ⟨x6, e6, g6⟩ := dec_str h6
  obtain ⟨x7, e7⟩ := dec_bool h7
  obtain ⟨x8, e8, g8⟩ := dec_str h8
  obtain ⟨x9, e9⟩ := dec_bool h9
  obtain ⟨x10, e10, g10⟩ := dec_str h10
  exact ⟨⟨x0, x1, x2, ⟨x3, x4⟩, ⟨x5, x6⟩, ⟨x7, x8⟩, ⟨x9, x10⟩⟩, .cons e0 (.cons e1 (.cons e2 (.cons e3 (.cons e4 (.cons e5 (.cons e6 (.cons e7 (.cons e8 (.cons e9 (.cons e10 .nil)))))))))), g0, g1, g2, g4, g6, g8, g10⟩
end Go.Vs.Ab
namespace Go.Vs.Ab
open Go.RowKit Go.Maps Go.ChangeShapes Go.WideShapes Go.Deep
section
variable {H : Type} {enc : TypeId × Value → H} {P : Program} {w : World} {base : Nat} {spare : Nat → Bool} {held : Bool}
end
section
variable {H : Type} {enc : TypeId × Value → H} {P : Program} {w : World} {base b0 : Nat} {spare : Nat → Bool} {held : Bool} {r : Reach} {d : Nat} {t : TypeId} {v : Value} {x : DataW H} {ps : List MemPlace}
end
theorem all2_split {α β : Type} {R : α → β → Prop} : ∀ {a b : List α} {cs : List β}, all2 R (a ++ b) cs → ∃ x y, cs = x ++ y ∧ all2 R a x ∧ all2 R b y
  | [], b, cs, h => ⟨[], cs, rfl, trivial, h⟩
  | k :: a, b, cs, h => by
    obtain ⟨c, r, rfl, h0, h1⟩ := all2_cons (show all2 R (k :: (a ++ b)) cs from h)
    obtain ⟨x, y, rfl, h2, h3⟩ := all2_split h1
    exact ⟨c :: x, y, rfl, ⟨h0, h2⟩, h3⟩
def atSh : List Sh := [.str, .str, .int, .bool, .str, .bool, .str, .bool, .str, .bool, .str]
end Go.Vs.Ab
namespace Go.Proofs.YtinbfakpjnnagaaGreatDoor
open Go.RowKit Go.Vs Go.Vs.Ab
theorem prD {d : Nat} {w : World} : Dec d w [.str, .int] prC (fun _ => True) := fun cs t => by
  obtain ⟨c0, r0, rfl, h0, t⟩ := all2_cons t
  obtain ⟨c1, r1, rfl, h1, t⟩ := all2_cons t
  obtain rfl := all2_nil t
  obtain ⟨x0, e0, g0⟩ := dec_str h0
  obtain ⟨x1, e1, g1⟩ := dec_int h1
  exact ⟨⟨x0, x1⟩, .cons e0 (.cons e1 .nil), trivial⟩
theorem clD {d : Nat} {w : World} : Dec (d + 1) w [.str, .sl [.str]] clC (fun _ => True) := fun cs t => by
  obtain ⟨c0, r0, rfl, h0, t⟩ := all2_cons t
  obtain ⟨c1, r1, rfl, h1, t⟩ := all2_cons t
  obtain rfl := all2_nil t
  obtain ⟨x0, e0, g0⟩ := dec_str h0
  obtain ⟨l, e1, g1⟩ := dec_sl stD h1
  exact ⟨⟨x0, false, l⟩, .cons e0 (.cons e1 .nil), trivial⟩
theorem ruD {d : Nat} {w : World} : Dec (d + 1) w (atSh ++ [.sl atSh]) ruC (fun _ => True) := fun cs t => by
  obtain ⟨x, y, rfl, t0, t1⟩ := all2_split t
  obtain ⟨a, e0, g0⟩ := atD x t0
  obtain ⟨c1, r1, rfl, h1, t1⟩ := all2_cons t1
  obtain rfl := all2_nil t1
  obtain ⟨l, e1, g1⟩ := dec_sl atD h1
  exact ⟨⟨a, false, l⟩, RepCs.append e0 (.cons e1 .nil), trivial⟩
theorem grD {d : Nat} {w : World} : Dec (d + 1) w (.str :: (atSh ++ [.sl atSh])) grC (fun _ => True) := fun cs t => by
  obtain ⟨c0, r0, rfl, h0, t⟩ := all2_cons t
  obtain ⟨x, y, rfl, t0, t1⟩ := all2_split t
  obtain ⟨s, e, _⟩ := dec_str h0
  obtain ⟨a, e0, g0⟩ := atD x t0
  obtain ⟨c1, r1, rfl, h1, t1⟩ := all2_cons t1
  obtain rfl := all2_nil t1
  obtain ⟨l, e1, g1⟩ := dec_sl atD h1
  exact ⟨⟨s, a, false, l⟩, .cons e (RepCs.append e0 (.cons e1 .nil)), trivial⟩
def poSh13 : List Sh := [.sl [.str], .sl [.str, .int], .sl [.str, .sl [.str]], .int, .int, .sl (atSh ++ [.sl atSh]), .sl (.str :: (atSh ++ [.sl atSh]))]
theorem poD {d : Nat} {w : World} : Dec (d + 2) w poSh13 poC (fun _ => True) := fun cs t => by
  obtain ⟨c0, r0, rfl, h0, t⟩ := all2_cons t
  obtain ⟨c1, r1, rfl, h1, t⟩ := all2_cons t
  obtain ⟨c2, r2, rfl, h2, t⟩ := all2_cons t
  obtain ⟨c3, r3, rfl, h3, t⟩ := all2_cons t
  obtain ⟨c4, r4, rfl, h4, t⟩ := all2_cons t
  obtain ⟨c5, r5, rfl, h5, t⟩ := all2_cons t
  obtain ⟨c6, r6, rfl, h6, t⟩ := all2_cons t
  obtain rfl := all2_nil t
  obtain ⟨l0, e0, g0⟩ := dec_sl stD h0
  obtain ⟨l1, e1, g1⟩ := dec_sl prD h1
  obtain ⟨l2, e2, g2⟩ := dec_sl clD h2
  obtain ⟨q, e3, g3⟩ := dec_int h3
  obtain ⟨b, e4, g4⟩ := dec_int h4
  obtain ⟨l5, e5, g5⟩ := dec_sl ruD h5
  obtain ⟨l6, e6, g6⟩ := dec_sl grD h6
  exact ⟨⟨false, l0, false, l1, false, l2, q, b, false, l5, false, l6⟩, .cons e0 (.cons e1 (.cons e2 (.cons e3 (.cons e4 (.cons e5 (.cons e6 .nil)))))), trivial⟩
end Go.Proofs.YtinbfakpjnnagaaGreatDoor
namespace Go.Proofs.YtinbfakpjnnagaaGreatDoor.forms
open Go.ChangeShapes Go.WideShapes Go.ChangeAt Go.RowKit Go.Vs Go.Vs.Ab
theorem own : ownKnob Tryz.prog.godebug = none := by kernel_rfl
theorem laidOut : laidOutB Tryz.prog = true := by kernel_rfl
theorem readable : (Tryz.f4.params.toList.all fun t => Tryz.prog.readableRec t && decide (t < Tryz.prog.types.size)) = true := by kernel_rfl
theorem shape28 : shapeOf Tryz.prog 8 28 = some poSh13 := by kernel_rfl
set_option maxRecDepth 100000 in
theorem door_met (os : Os) (args : Array Value) : laidMetH Tryz.prog Rows.desugarFormsRow.laid ((World.doorLaid Tryz.prog 400 os).forCall (fun _ _ => 0) ⟨#[], args, []⟩).memory :=
  laidMetH_of_parts3 (fuel := 8) (laidMet_of_run' 8 (by kernel_rfl) (by kernel_rfl)) (by kernel_rfl) (by kernel_rfl)
set_option maxRecDepth 100000 in
theorem lifted (os : Os) (started : os.Started) (H : Type) (enc : TypeId × Value → H) :
    ReturnsInHanded {} Tryz.checked os 4 .any (fun w args => (Rows.desugarFormsSpec.pre enc Tryz.prog Tryz.f4 [] false w args ∧ laidMetH Tryz.prog Rows.desugarFormsRow.laid w) ∧ sizedMet enc Tryz.prog Tryz.f4 (OpenSpec.ofChange Rows.desugarFormsSpec) false w args) (Rows.desugarFormsSpec.post enc Tryz.prog Tryz.f4 false true false false) := by
  refine returnsInHanded_of_change_and (C := Tryz.checked) (X := fun w _ => laidMetH Tryz.prog Rows.desugarFormsRow.laid w) (fun _ _ _ hh h => h.of_heap hh) own started (by kernel_rfl) Tryz.func4
    (ChangeSpec.witness_shaped (enc := enc) (C := Tryz.checked) (os := os) (X := fun w _ => laidMetH Tryz.prog Rows.desugarFormsRow.laid w) false (World.doorLaid Tryz.prog 400 os) #[.agg #[.slice none 0 0, .slice none 0 0, .slice none 0 0, .int .i64 0, .int .i64 0, .slice none 0 0, .slice none 0 0]] 8 rfl (World.shaped_of_RefB (by kernel_rfl) (by kernel_rfl)) (by kernel_rfl) (by kernel_rfl) (by kernel_rfl) (door_met os _)) ?_
  intro W base args ds gs before hval0 hW _ _ hL _
  have hval : ∀ (j : Nat) t v, Tryz.f4.params[j]? = some t → args[j]? = some v → Value.okWide Tryz.prog W .any base t v := hval0
  have hW' := hW
  obtain ⟨p, q, hA0, hV, rfl, hfz, hnd⟩ := hW
  have hA : DataW.TrodAll enc Tryz.prog W 0 (fun _ => true) true Tryz.f4.params.toList args.toList ds p := hA0
  rw [Tryz.params4] at hA hval
  obtain ⟨v0, vs0, d0, ds0, p0, q0, hargs, rfl, rfl, h0, r0⟩ := trodAll_cons hA
  obtain ⟨rfl, rfl, rfl⟩ := trodAll_nil r0
  obtain rfl : args = #[v0] := by cases args; simp_all
  obtain ⟨rfl, rfl⟩ := trodVars_none hV
  obtain ⟨a0, R0, _⟩ := open_agg Tryz.underlying28 shape28 poD (hval 0 28 v0 rfl rfl) h0
  refine ((dforms_does a0).bool (Reps.cons R0 Reps.nil)).mono fun e W' ⟨he, hb⟩ => ?_
  subst he
  refine ⟨_, rfl, law_post (tb := 4) hW' rfl rfl laidOut (fun t ht => ?_) rfl Tryz.underlying4 hb⟩
  have := List.all_eq_true.1 readable t ht
  simp only [Bool.and_eq_true, decide_eq_true_eq] at this
  exact this
theorem row_holds : Rows.DesugarFormsSaid :=
  OpenClaim.holds_of_wide 4 Tryz.f4 rfl rfl rfl rfl rfl rfl rfl ⟨rfl, rfl, rfl, rfl, rfl⟩ rfl rfl rfl rfl rfl (by kernel_rfl) Tryz.func4 (by kernel_rfl)
    (of_decide_eq_true (by kernel_rfl)) (by unfold Func.isWrapper; first | (rw [if_pos (by decide +kernel)]; kernel_rfl) | (rw [if_neg (by decide +kernel)]; exact ⟨rfl, rfl⟩))
    (fun os started H enc _ => lifted os started H enc)
theorem holds : Rows.DesugarFormsCardSaid :=
  Claim7.holds_tied_plain_at .later [] [.data, .data, .data] true (true, "b8655b5a8ff96433aed2e2b0f01d8e65fb3d436a248c3062e587e77c5195fd70") false
    row_holds (fun _ h => by cases h) (by kernel_rfl) (fun _ h => by cases h) desugarForms_row_tie rfl ⟨rfl, rfl⟩ (by kernel_rfl) rfl
    (fun f fn hf hfn => by
      obtain rfl : f = 4 := Option.some.inj ((show Tryz.prog.funcNamed "vouchsafe/vouchsafelaw13.DesugarForms" = some 4 by kernel_rfl).symm.trans hf) |>.symm
      obtain rfl : fn = Tryz.f4 := (Option.some.inj (Tryz.func4.symm.trans hfn)).symm
      exact ⟨by kernel_rfl, fun j t ht => by
        have hm : t ∈ Tryz.f4.params.toList := by simpa using Array.mem_of_getElem? ht
        have hall : (Tryz.f4.params.toList.all fun u => !Tryz.prog.wantsStandIn u) = true := by kernel_rfl
        exact (show Tryz.prog.wantsStandIn t = false by simpa using List.all_eq_true.1 hall t hm)⟩)
    (by kernel_rfl)
#print axioms holds
end Go.Proofs.YtinbfakpjnnagaaGreatDoor.forms
