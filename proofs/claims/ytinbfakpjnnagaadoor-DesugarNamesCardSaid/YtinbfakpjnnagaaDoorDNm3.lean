/-
  For every input the statement DesugarNames returns true, and leaves its arguments as they were.
-/
import Derived.Test.YtinbfakpjnnagaaDoorDNm2
import Derived.Test.YtinbfakpjnnagaaDoorDNDg
import Derived.Test.YtinbfakpjnnagaaDoorDNOn
import Derived.Test.YtinbfakpjnnagaaDoorDNOpen
import Derived.Test.YtinbfakpjnnagaaDoorDNLaw
import Derived.Test.YtinbfakpjnnagaaDoorRows
import Derived.Test.YtinbfakpjnnagaaDoorCards
import Derived.Test.YtinbfakpjnnagaaDoorTie
import Derived.ProofKit
import Derived.LaidMore
import Derived.LaidHandle
import Derived.OpenShut
import Derived.Stop.Joined
import Derived.SevenTiedAt
set_option linter.unusedSimpArgs false
set_option linter.unusedVariables false
namespace Go.Proofs.YtinbfakpjnnagaaDoor
open Go.RowKit Go.Vs Go.Vs.Ab Go.Vs.Sm
set_option maxRecDepth 100000
set_option maxHeartbeats 40000000
def symT3 (lt : Atm → Atm → Bool) (f : Nat) (l : List Atm) (mid e b : Nat) : List Atm := if mid < e ∧ e < b then symL lt f l mid e b else l
def symT2 (lt : Atm → Atm → Bool) (f : Nat) (l : List Atm) (a b mid R e : Nat) : List Atm := symT3 lt f (if a < R ∧ R < mid then symL lt f l a R mid else l) mid e b
theorem ite_len {T : Type} {n : Nat} (c : Prop) [Decidable c] (x y : List T) (h1 : x.length = n) (h2 : y.length = n) : (if c then x else y).length = n := by split <;> assumption
theorem ite_mem {T : Type} {u : T} {Q : Prop} (c : Prop) [Decidable c] (x y : List T) (h1 : u ∈ x → Q) (h2 : u ∈ y → Q) : u ∈ (if c then x else y) → Q := by split <;> assumption
theorem symL_len {T : Type} {lt : T → T → Bool} : ∀ (f : Nat) (l : List T) (a m b : Nat), (symL lt f l a m b).length = l.length
  | 0, _, _, _, _ => rfl
  | f + 1, l, a, m, b => by
    unfold symL
    split
    · rw [upL_len]
    · split
      · rw [downL_len]
      · dsimp only
        have q1 : ∀ (c : Prop) [Decidable c] (p q r : Nat), (if c then rotL m p l q r else l).length = l.length := fun c _ p q r => ite_len c _ _ (rotL_len _ _ _ _) rfl
        refine ite_len _ _ _ ?_ ?_
        · rw [symL_len f]
          exact ite_len _ _ _ (by rw [symL_len f]; exact q1 _ _ _ _) (q1 _ _ _ _)
        · exact ite_len _ _ _ (by rw [symL_len f]; exact q1 _ _ _ _) (q1 _ _ _ _)
theorem symL_mem {T : Type} {lt : T → T → Bool} {x : T} : ∀ (f : Nat) (l : List T) (a m b : Nat), x ∈ symL lt f l a m b → x ∈ l
  | 0, _, _, _, _, h => h
  | f + 1, l, a, m, b, h => by
    unfold symL at h
    split at h
    · exact upL_mem _ h
    · split at h
      · exact downL_mem _ h
      · dsimp only at h
        have q1 : ∀ (c : Prop) [Decidable c] (p q r : Nat), x ∈ (if c then rotL m p l q r else l) → x ∈ l := fun c _ p q r => ite_mem c _ _ (fun h => rotL_mem _ _ _ _ h) (fun h => h)
        refine ite_mem _ _ _ (fun h => ?_) (fun h => ?_) h
        · exact ite_mem _ _ _ (fun h => q1 _ _ _ _ (symL_mem f _ _ _ _ h)) (fun h => q1 _ _ _ _ h) (symL_mem f _ _ _ _ h)
        · exact ite_mem _ _ _ (fun h => q1 _ _ _ _ (symL_mem f _ _ _ _ h)) (fun h => q1 _ _ _ _ h) h
theorem symC (f : Nat) (ih : ∀ (l : List Atm) (a m b : Nat) (hw : List Hw), a < m → m < b → b ≤ l.length → l.length ≤ 1000000 → b - a ≤ f → (∀ x ∈ l, AtSz x) → GivesW Tryd.prog 53 [.lsl 0 0 l.length 11, iA a, iA m, iA b, cmpF] ⟨[⟨false, blC atC l⟩], hw⟩ (.tup []) ⟨[⟨false, blC atC (symL ltA f l a m b)⟩], hw⟩)
    (l : List Atm) (a m b : Nat) (hw : List Hw) (ham : a < m) (hmb : m < b) (hbl : b ≤ l.length) (hl : l.length ≤ 1000000) (hf1 : b - a ≤ f + 1) (hsz : ∀ x ∈ l, AtSz x) (h1 : ¬ m - a = 1) (h2 : ¬ b - m = 1) : GivesW Tryd.prog 53 [.lsl 0 0 l.length 11, iA a, iA m, iA b, cmpF] ⟨[⟨false, blC atC l⟩], hw⟩ (.tup []) ⟨[⟨false, blC atC (symL ltA (f + 1) l a m b)⟩], hw⟩ := by
  obtain ⟨T, hT0⟩ : ∃ T, T = symL ltA (f + 1) l a m b := ⟨_, rfl⟩
  rw [← hT0]
  unfold symL at hT0
  rw [if_neg h1, if_neg h2] at hT0
  have cu := cvU (a + b) (by omega)
  have sh := shO (a + b)
  have ci := cvI ((a + b) / 2) (by omega)
  have hm1 : 2 * ((a + b) / 2) ≤ a + b ∧ a + b < 2 * ((a + b) / 2) + 2 := by omega
  generalize (a + b) / 2 = mid at *
  dsimp only at hT0
  have w3 := wrap_addN (show a + b ≤ 1000000000 by omega)
  have w4 := wrap_addN (show mid + m ≤ 1000000000 by omega)
  have w1 := wrap_subN (show a ≤ m by omega) (by omega)
  have e0 : decide (((m - a : Nat) : Int) = 1) = false := decide_eq_false (by omega)
  have e0' : (((m - a : Nat) : Int) == 1) = false := by rw [beq_eq_false_iff_ne]; omega
  have w2 := wrap_subN (show m ≤ b by omega) (by omega)
  have e1 : decide (((b - m : Nat) : Int) = 1) = false := decide_eq_false (by omega)
  have e1' : (((b - m : Nat) : Int) == 1) = false := by rw [beq_eq_false_iff_ne]; omega
  obtain ⟨nn, hnn⟩ : ∃ nn, nn = mid + m := ⟨_, rfl⟩
  rw [← hnn] at hT0 w4
  have w6 := wrap_pre (show 0 < nn by omega) (by omega)
  by_cases hmm : mid < m
  · rw [if_pos hmm, if_pos hmm] at hT0
    obtain ⟨R, hR⟩ : ∃ R, R = bs (fun c => !ltAt ltA l (nn - 1 - c) c) (mid - (nn - b) + 1) (nn - b) mid := ⟨_, rfl⟩
    have hTT : ∀ S, S = R → T = symT2 ltA f (if S < m ∧ m < nn - S then rotL m (nn - S - S) l (m - S) (nn - S - m) else l) a b mid S (nn - S) := fun S hS => by rw [hS, hR]; exact hT0
    clear hT0
    have q0 : decide ((m : Int) > (mid : Int)) = true := decide_eq_true (by omega)
    have w5 := wrap_subN (show b ≤ nn by omega) (by omega)
    obtain ⟨s0, hs0⟩ : ∃ s0, s0 = nn - b := ⟨_, rfl⟩
    rw [← hs0] at hR w5
    refine givesW_of' Tryd.func53 rfl (by kernel_rfl) Tryd.ntmps53 rfl rfl fun Q hQ => ?_
    repeat (first | refine tr_seq_k fun _ _ => ?_ | (refine tr_region ?_; simp only [go_sem, reduceCtorEq, Nat.reduceEqDiff, Nat.reduceLT, Nat.reduceAdd, ↓reduceIte, w1, e0']) | refine k_of (by assumption) ?_)
    refine tr_cond rfl (fun ht => ?_) (fun hf => ?_)
    · cases ht
    · repeat (first | refine tr_seq_k fun _ _ => ?_ | (refine tr_region ?_; simp only [go_sem, reduceCtorEq, Nat.reduceEqDiff, Nat.reduceLT, ↓reduceIte, w2, e1']) | refine k_of (by assumption) ?_ | (refine tr_skip ?_; try simp only [ex_seq]))
      refine tr_cond rfl (fun ht => ?_) (fun hf => ?_)
      · cases ht
      · repeat (first | refine tr_seq_k fun _ _ => ?_ | (refine tr_region ?_; simp only [go_sem, reduceCtorEq, Nat.reduceEqDiff, Nat.reduceLT, ↓reduceIte, w3, cu, sh, ci, w4, q0]) | refine k_of (by assumption) ?_ | (refine tr_skip ?_; try simp only [ex_seq]))
        refine tr_cond rfl (fun ht => ?_) (fun hf => ?_)
        · repeat (first | refine tr_seq_k fun _ _ => ?_ | (refine tr_region ?_; simp only [go_sem, reduceCtorEq, Nat.reduceEqDiff, Nat.reduceLT, ↓reduceIte, w5, w6]) | refine k_of (by assumption) ?_ | refine tr_block ?_)
          refine tr_loop_k (σ := Nat × Nat × Nat) (fun q => [(0, .lsl 0 0 l.length 11), (1, iA a), (2, iA m), (3, iA b), (4, cmpF), (18, iA mid), (19, iA nn), (22, iA ((nn - 1 : Nat) : Int)), (20, iA q.2.1), (21, iA q.2.2)]) (fun q => ⟨[⟨false, blC atC l⟩], hw⟩)
            (fun q => R = bs (fun c => !ltAt ltA l (nn - 1 - c) c) (q.1 + 1) q.2.1 q.2.2 ∧ s0 ≤ q.2.1 ∧ q.2.1 ≤ q.2.2 ∧ q.2.2 ≤ mid ∧ q.2.2 - q.2.1 ≤ q.1) (fun q => q.2.2 - q.2.1) (mid - s0, s0, mid) ⟨hR, Nat.le_refl _, by dsimp only; omega, Nat.le_refl _, Nat.le_refl _⟩ ⟨rfl, rfl, rfl, rfl, rfl, rfl, rfl, rfl, rfl, rfl, trivial⟩ rfl ?_
          rintro ⟨g, i, j⟩ ⟨hRR, hmi, hij, hjb, hg⟩ K hK
          dsimp only at hRR hmi hij hjb hg ⊢
          by_cases hlt : i < j
          · have q1 : decide ((i : Int) < (j : Int)) = true := decide_eq_true (by omega)
            obtain ⟨g, rfl⟩ : ∃ z, g = z + 1 := ⟨g - 1, by omega⟩
            have w2 := wrap_addN (show i + j ≤ 1000000000 by omega)
            have w2b : i + j ≤ 1000000000 := by omega
            have w2c : (i + j) / 2 ≤ 1000000000 := by omega
            have hR2 := bs_hit hRR hlt
            have hh1 : i ≤ (i + j) / 2 := by omega
            have hh2 : (i + j) / 2 < j := by omega
            have sh := shO (i + j)
            have cu := cvU _ w2b
            have ci := cvI _ w2c
            generalize (i + j) / 2 = h at *
            have ws := wrap_succ (show h ≤ 1000000000 by omega)
            have wp := wrap_subN (show h ≤ nn - 1 by omega) (by omega)
            have hx : nn - 1 - h < l.length := by omega
            have hy : h < l.length := by omega
            have cC := cmpA_does l[nn - 1 - h] l[h] (hsz _ (List.getElem_mem hx)) (hsz _ (List.getElem_mem hy))
            have hlt2 := cmpA_lt l[nn - 1 - h] l[h]
            have d1 := drLA hx
            have d2 := drLA hy
            rw [ltAt_eq hx hy] at hR2
            cases hz : ltA l[nn - 1 - h] l[h] with
            | true =>
              rw [hz] at hlt2 hR2
              rw [if_neg (by decide)] at hR2
              repeat (first | refine tr_seq_k fun _ _ => ?_ | (refine tr_region ?_; simp only [go_sem, reduceCtorEq, Nat.reduceEqDiff, Nat.reduceLT, ↓reduceIte, q1]) | refine k_of (by assumption) ?_)
              refine tr_cond rfl (fun ht => ?_) (fun hf => ?_)
              · repeat (first | refine tr_seq_k fun _ _ => ?_ | (refine tr_region ?_; simp only [go_sem, reduceCtorEq, Nat.reduceEqDiff, Nat.reduceLT, ↓reduceIte, w2, cu, ci, sh]) | (refine tr_draw (id := 35) follows 10000 [11] [0, 1, 2, 3, 4, 5, 6, 7, 8, 9, 10, 11, 12, 13] (by kernel_rfl) ?_; simp only [go_sem, List.getElem?_toArray, reduceCtorEq, Nat.reduceEqDiff, Nat.reduceLT, ↓reduceIte, wp, ixLA hx, ixLA hy, d1, d2, fitLA hx, fitLA hy]) | (refine call_of (cC) ?_ ?_; (first | rfl | simp only [go_sem, reduceCtorEq, Nat.reduceEqDiff, Nat.reduceLT, Nat.reduceLeDiff, Nat.reduceAdd, Nat.reduceMul, Nat.reduceSub, Nat.reduceBEq, ↓reduceIte, w2, cu, ci, sh, wp, ixLA hx, ixLA hy, d1, d2, fitLA hx, fitLA hy, hlt2, shut_col]); simp only [go_sem, reduceCtorEq, Nat.reduceEqDiff, Nat.reduceLT, ↓reduceIte, Bool.true_or, hlt2]) | refine k_of (by assumption) ?_ | refine tr_block ?_ | (refine tr_skip ?_; try simp only [ex_seq]))
                refine tr_cond rfl (fun ht => ?_) (fun hf => ?_)
                · cases ht
                · repeat ((refine tr_region ?_; simp only [go_sem, reduceCtorEq, Nat.reduceEqDiff, Nat.reduceLT, ↓reduceIte]))
                  exact hK (g, i, h) _ _ ⟨hR2, by dsimp only; omega, by dsimp only; omega, by dsimp only; omega, by dsimp only; omega⟩ ⟨⟨rfl, rfl, rfl, rfl, rfl, rfl, rfl, rfl, rfl, rfl, trivial⟩, Keep.refl _, rfl, by simp only [lowB, lows_blC]; rfl, Nat.le_refl _, Nat.le_refl _⟩ (by dsimp only; omega)
              · cases hf
            | false =>
              rw [hz] at hlt2 hR2
              rw [if_pos (by decide)] at hR2
              repeat (first | refine tr_seq_k fun _ _ => ?_ | (refine tr_region ?_; simp only [go_sem, reduceCtorEq, Nat.reduceEqDiff, Nat.reduceLT, ↓reduceIte, q1]) | refine k_of (by assumption) ?_)
              refine tr_cond rfl (fun ht => ?_) (fun hf => ?_)
              · repeat (first | refine tr_seq_k fun _ _ => ?_ | (refine tr_region ?_; simp only [go_sem, reduceCtorEq, Nat.reduceEqDiff, Nat.reduceLT, ↓reduceIte, w2, cu, ci, sh]) | (refine tr_draw (id := 35) follows 10000 [11] [0, 1, 2, 3, 4, 5, 6, 7, 8, 9, 10, 11, 12, 13] (by kernel_rfl) ?_; simp only [go_sem, List.getElem?_toArray, reduceCtorEq, Nat.reduceEqDiff, Nat.reduceLT, ↓reduceIte, wp, ixLA hx, ixLA hy, d1, d2, fitLA hx, fitLA hy]) | (refine call_of (cC) ?_ ?_; (first | rfl | simp only [go_sem, reduceCtorEq, Nat.reduceEqDiff, Nat.reduceLT, Nat.reduceLeDiff, Nat.reduceAdd, Nat.reduceMul, Nat.reduceSub, Nat.reduceBEq, ↓reduceIte, w2, cu, ci, sh, wp, ixLA hx, ixLA hy, d1, d2, fitLA hx, fitLA hy, hlt2, shut_col]); simp only [go_sem, reduceCtorEq, Nat.reduceEqDiff, Nat.reduceLT, ↓reduceIte, Bool.true_or, hlt2]) | refine k_of (by assumption) ?_ | refine tr_block ?_ | (refine tr_skip ?_; try simp only [ex_seq]))
                refine tr_cond rfl (fun ht => ?_) (fun hf => ?_)
                · repeat ((refine tr_region ?_; simp only [go_sem, reduceCtorEq, Nat.reduceEqDiff, Nat.reduceLT, ↓reduceIte, ws]))
                  exact hK (g, h + 1, j) _ _ ⟨hR2, by dsimp only; omega, by dsimp only; omega, by dsimp only; omega, by dsimp only; omega⟩ ⟨⟨rfl, rfl, rfl, rfl, rfl, rfl, rfl, rfl, rfl, rfl, trivial⟩, Keep.refl _, rfl, by simp only [lowB, lows_blC]; rfl, Nat.le_refl _, Nat.le_refl _⟩ (by dsimp only; omega)
                · cases hf
              · cases hf
          · have q1 : decide ((i : Int) < (j : Int)) = false := decide_eq_false (by omega)
            obtain rfl : R = i := bs_end hRR hlt
            repeat (first | refine tr_seq_k fun _ _ => ?_ | (refine tr_region ?_; simp only [go_sem, reduceCtorEq, Nat.reduceEqDiff, Nat.reduceLT, ↓reduceIte, q1]) | refine k_of (by assumption) ?_)
            refine tr_cond rfl (fun ht => ?_) (fun hf => ?_)
            · cases ht
            · have hRm : s0 ≤ R := hmi
              have hRr : R ≤ mid := by omega
              have w7 := wrap_subN (show R ≤ nn by omega) (by omega)
              have hT := hTT R rfl
              obtain ⟨e, he⟩ : ∃ e, e = nn - R := ⟨_, rfl⟩
              rw [← he] at w7 hT
              by_cases c1 : R < m
              · by_cases c2 : m < e
                · have d1 : decide ((R : Int) < (m : Int)) = true := decide_eq_true (by omega)
                  have d2 : decide ((m : Int) < (e : Int)) = true := decide_eq_true (by omega)
                  rw [if_pos ⟨c1, c2⟩] at hT
                  have cS1 := rot_gives l R m e hw c1 c2 (by omega) (by omega)
                  obtain ⟨l1, hl1⟩ : ∃ l1, l1 = rotL m (e - R) l (m - R) (e - m) := ⟨_, rfl⟩
                  rw [← hl1] at cS1 hT
                  have hl1n : l1.length = l.length := by rw [hl1, rotL_len]
                  have hl1s : ∀ x ∈ l1, AtSz x := fun x hx => hsz x (rotL_mem _ _ _ _ (hl1 ▸ hx))
                  clear hl1
                  repeat (first | refine tr_seq_k fun _ _ => ?_ | (refine tr_region ?_; simp only [go_sem, List.getElem?_toArray, reduceCtorEq, Nat.reduceEqDiff, Nat.reduceLT, ↓reduceIte, w7, d1, d2]) | refine k_of (by assumption) ?_ | (refine tr_exit ?_; try simp only [ex_seq_exit, ex_block_exit, ex_seq, ↓reduceIte]))
                  refine tr_cond rfl (fun ht => ?_) (fun hf => ?_)
                  · clear d1 d2
                    unfold symT2 at hT
                    by_cases c1 : a < R
                    · by_cases c2 : R < mid
                      · have d1 : decide ((a : Int) < (R : Int)) = true := decide_eq_true (by omega)
                        have d2 : decide ((R : Int) < (mid : Int)) = true := decide_eq_true (by omega)
                        rw [if_pos ⟨c1, c2⟩] at hT
                        have cS2 := ih l1 a R mid hw c1 c2 (by omega) (by omega) (by omega) hl1s
                        obtain ⟨l2, hl2⟩ : ∃ l2, l2 = symL ltA f l1 a R mid := ⟨_, rfl⟩
                        rw [← hl2] at cS2 hT
                        have hl2n : l2.length = l.length := by rw [hl2, symL_len]; exact hl1n
                        have hl2s : ∀ x ∈ l2, AtSz x := fun x hx => hl1s x (symL_mem _ _ _ _ _ (hl2 ▸ hx))
                        rw [hl1n] at cS2
                        clear hl2
                        repeat (first | refine tr_seq_k fun _ _ => ?_ | (refine tr_region ?_; simp only [go_sem, List.getElem?_toArray, reduceCtorEq, Nat.reduceEqDiff, Nat.reduceLT, ↓reduceIte, d1, d2]) | (refine call_givesW (cS1) ?_; (try dsimp only); (try simp only [go_sem, reduceCtorEq, Nat.reduceEqDiff, Nat.reduceLT, Nat.reduceLeDiff, Nat.reduceAdd, Nat.reduceMul, Nat.reduceSub, Nat.reduceBEq, ↓reduceIte, d1, d2])) | refine k_of (by assumption) ?_)
                        refine tr_cond rfl (fun ht => ?_) (fun hf => ?_)
                        · clear d1 d2
                          unfold symT3 at hT
                          by_cases c1 : mid < e
                          · by_cases c2 : e < b
                            · have d1 : decide ((mid : Int) < (e : Int)) = true := decide_eq_true (by omega)
                              have d2 : decide ((e : Int) < (b : Int)) = true := decide_eq_true (by omega)
                              rw [if_pos ⟨c1, c2⟩] at hT
                              have cS3 := ih l2 mid e b hw c1 c2 (by omega) (by omega) (by omega) hl2s
                              obtain ⟨l3, hl3⟩ : ∃ l3, l3 = symL ltA f l2 mid e b := ⟨_, rfl⟩
                              rw [← hl3] at cS3 hT
                              have hl3n : l3.length = l.length := by rw [hl3, symL_len]; exact hl2n
                              have hl3s : ∀ x ∈ l3, AtSz x := fun x hx => hl2s x (symL_mem _ _ _ _ _ (hl3 ▸ hx))
                              rw [hl2n] at cS3
                              clear hl3
                              repeat (first | refine tr_seq_k fun _ _ => ?_ | (refine tr_region ?_; simp only [go_sem, List.getElem?_toArray, reduceCtorEq, Nat.reduceEqDiff, Nat.reduceLT, ↓reduceIte, d1, d2]) | (refine call_givesW (cS2) ?_; (try dsimp only); (try simp only [go_sem, reduceCtorEq, Nat.reduceEqDiff, Nat.reduceLT, Nat.reduceLeDiff, Nat.reduceAdd, Nat.reduceMul, Nat.reduceSub, Nat.reduceBEq, ↓reduceIte, d1, d2])) | refine k_of (by assumption) ?_)
                              refine tr_cond rfl (fun ht => ?_) (fun hf => ?_)
                              · clear d1 d2
                                repeat (first | (refine tr_region ?_; simp only [go_sem, reduceCtorEq, Nat.reduceEqDiff, Nat.reduceLT, ↓reduceIte]) | (refine call_givesW (cS3) ?_; (try dsimp only); (try simp only [go_sem, reduceCtorEq, Nat.reduceEqDiff, Nat.reduceLT, Nat.reduceLeDiff, Nat.reduceAdd, Nat.reduceMul, Nat.reduceSub, Nat.reduceBEq, ↓reduceIte])))
                                exact (hQ _ _ [] rfl rfl (by rw [hT])).1
                              · cases hf
                            · have d1 : decide ((mid : Int) < (e : Int)) = true := decide_eq_true (by omega)
                              have d2 : decide ((e : Int) < (b : Int)) = false := decide_eq_false (by omega)
                              rw [if_neg (fun h => c2 h.2)] at hT
                              repeat (first | refine tr_seq_k fun _ _ => ?_ | (refine tr_region ?_; simp only [go_sem, List.getElem?_toArray, reduceCtorEq, Nat.reduceEqDiff, Nat.reduceLT, ↓reduceIte, d1, d2]) | (refine call_givesW (cS2) ?_; (try dsimp only); (try simp only [go_sem, reduceCtorEq, Nat.reduceEqDiff, Nat.reduceLT, Nat.reduceLeDiff, Nat.reduceAdd, Nat.reduceMul, Nat.reduceSub, Nat.reduceBEq, ↓reduceIte, d1, d2])) | refine k_of (by assumption) ?_)
                              refine tr_cond rfl (fun ht => ?_) (fun hf => ?_)
                              · cases ht
                              · clear d1 d2
                                repeat ((refine tr_skip ?_; try simp only [ex_seq, ex_block]))
                                exact (hQ _ _ [] rfl rfl (by rw [hT])).1
                          · have d1 : decide ((mid : Int) < (e : Int)) = false := decide_eq_false (by omega)
                            rw [if_neg (fun h => c1 h.1)] at hT
                            repeat (first | refine tr_seq_k fun _ _ => ?_ | (refine tr_region ?_; simp only [go_sem, List.getElem?_toArray, reduceCtorEq, Nat.reduceEqDiff, Nat.reduceLT, ↓reduceIte, d1]) | (refine call_givesW (cS2) ?_; (try dsimp only); (try simp only [go_sem, reduceCtorEq, Nat.reduceEqDiff, Nat.reduceLT, Nat.reduceLeDiff, Nat.reduceAdd, Nat.reduceMul, Nat.reduceSub, Nat.reduceBEq, ↓reduceIte, d1])) | refine k_of (by assumption) ?_)
                            refine tr_cond rfl (fun ht => ?_) (fun hf => ?_)
                            · cases ht
                            · clear d1
                              repeat ((refine tr_skip ?_; try simp only [ex_seq, ex_block]))
                              exact (hQ _ _ [] rfl rfl (by rw [hT])).1
                        · cases hf
                      · have d1 : decide ((a : Int) < (R : Int)) = true := decide_eq_true (by omega)
                        have d2 : decide ((R : Int) < (mid : Int)) = false := decide_eq_false (by omega)
                        rw [if_neg (fun h => c2 h.2)] at hT
                        repeat (first | refine tr_seq_k fun _ _ => ?_ | (refine tr_region ?_; simp only [go_sem, List.getElem?_toArray, reduceCtorEq, Nat.reduceEqDiff, Nat.reduceLT, ↓reduceIte, d1, d2]) | (refine call_givesW (cS1) ?_; (try dsimp only); (try simp only [go_sem, reduceCtorEq, Nat.reduceEqDiff, Nat.reduceLT, Nat.reduceLeDiff, Nat.reduceAdd, Nat.reduceMul, Nat.reduceSub, Nat.reduceBEq, ↓reduceIte, d1, d2])) | refine k_of (by assumption) ?_)
                        refine tr_cond rfl (fun ht => ?_) (fun hf => ?_)
                        · cases ht
                        · clear d1 d2
                          unfold symT3 at hT
                          by_cases c1 : mid < e
                          · by_cases c2 : e < b
                            · have d1 : decide ((mid : Int) < (e : Int)) = true := decide_eq_true (by omega)
                              have d2 : decide ((e : Int) < (b : Int)) = true := decide_eq_true (by omega)
                              rw [if_pos ⟨c1, c2⟩] at hT
                              have cS3 := ih l1 mid e b hw c1 c2 (by omega) (by omega) (by omega) hl1s
                              obtain ⟨l3, hl3⟩ : ∃ l3, l3 = symL ltA f l1 mid e b := ⟨_, rfl⟩
                              rw [← hl3] at cS3 hT
                              have hl3n : l3.length = l.length := by rw [hl3, symL_len]; exact hl1n
                              have hl3s : ∀ x ∈ l3, AtSz x := fun x hx => hl1s x (symL_mem _ _ _ _ _ (hl3 ▸ hx))
                              rw [hl1n] at cS3
                              clear hl3
                              repeat (first | refine tr_seq_k fun _ _ => ?_ | (refine tr_region ?_; simp only [go_sem, List.getElem?_toArray, reduceCtorEq, Nat.reduceEqDiff, Nat.reduceLT, ↓reduceIte, d1, d2]) | refine k_of (by assumption) ?_ | (refine tr_skip ?_; try simp only [ex_seq]))
                              refine tr_cond rfl (fun ht => ?_) (fun hf => ?_)
                              · clear d1 d2
                                repeat (first | (refine tr_region ?_; simp only [go_sem, reduceCtorEq, Nat.reduceEqDiff, Nat.reduceLT, ↓reduceIte]) | (refine call_givesW (cS3) ?_; (try dsimp only); (try simp only [go_sem, reduceCtorEq, Nat.reduceEqDiff, Nat.reduceLT, Nat.reduceLeDiff, Nat.reduceAdd, Nat.reduceMul, Nat.reduceSub, Nat.reduceBEq, ↓reduceIte])))
                                exact (hQ _ _ [] rfl rfl (by rw [hT])).1
                              · cases hf
                            · have d1 : decide ((mid : Int) < (e : Int)) = true := decide_eq_true (by omega)
                              have d2 : decide ((e : Int) < (b : Int)) = false := decide_eq_false (by omega)
                              rw [if_neg (fun h => c2 h.2)] at hT
                              repeat (first | refine tr_seq_k fun _ _ => ?_ | (refine tr_region ?_; simp only [go_sem, List.getElem?_toArray, reduceCtorEq, Nat.reduceEqDiff, Nat.reduceLT, ↓reduceIte, d1, d2]) | refine k_of (by assumption) ?_ | (refine tr_skip ?_; try simp only [ex_seq]))
                              refine tr_cond rfl (fun ht => ?_) (fun hf => ?_)
                              · cases ht
                              · clear d1 d2
                                repeat ((refine tr_skip ?_; try simp only [ex_seq, ex_block]))
                                exact (hQ _ _ [] rfl rfl (by rw [hT])).1
                          · have d1 : decide ((mid : Int) < (e : Int)) = false := decide_eq_false (by omega)
                            rw [if_neg (fun h => c1 h.1)] at hT
                            repeat (first | refine tr_seq_k fun _ _ => ?_ | (refine tr_region ?_; simp only [go_sem, List.getElem?_toArray, reduceCtorEq, Nat.reduceEqDiff, Nat.reduceLT, ↓reduceIte, d1]) | refine k_of (by assumption) ?_ | (refine tr_skip ?_; try simp only [ex_seq]))
                            refine tr_cond rfl (fun ht => ?_) (fun hf => ?_)
                            · cases ht
                            · clear d1
                              repeat ((refine tr_skip ?_; try simp only [ex_seq, ex_block]))
                              exact (hQ _ _ [] rfl rfl (by rw [hT])).1
                    · have d1 : decide ((a : Int) < (R : Int)) = false := decide_eq_false (by omega)
                      rw [if_neg (fun h => c1 h.1)] at hT
                      repeat (first | refine tr_seq_k fun _ _ => ?_ | (refine tr_region ?_; simp only [go_sem, List.getElem?_toArray, reduceCtorEq, Nat.reduceEqDiff, Nat.reduceLT, ↓reduceIte, d1]) | (refine call_givesW (cS1) ?_; (try dsimp only); (try simp only [go_sem, reduceCtorEq, Nat.reduceEqDiff, Nat.reduceLT, Nat.reduceLeDiff, Nat.reduceAdd, Nat.reduceMul, Nat.reduceSub, Nat.reduceBEq, ↓reduceIte, d1])) | refine k_of (by assumption) ?_)
                      refine tr_cond rfl (fun ht => ?_) (fun hf => ?_)
                      · cases ht
                      · clear d1
                        unfold symT3 at hT
                        by_cases c1 : mid < e
                        · by_cases c2 : e < b
                          · have d1 : decide ((mid : Int) < (e : Int)) = true := decide_eq_true (by omega)
                            have d2 : decide ((e : Int) < (b : Int)) = true := decide_eq_true (by omega)
                            rw [if_pos ⟨c1, c2⟩] at hT
                            have cS3 := ih l1 mid e b hw c1 c2 (by omega) (by omega) (by omega) hl1s
                            obtain ⟨l3, hl3⟩ : ∃ l3, l3 = symL ltA f l1 mid e b := ⟨_, rfl⟩
                            rw [← hl3] at cS3 hT
                            have hl3n : l3.length = l.length := by rw [hl3, symL_len]; exact hl1n
                            have hl3s : ∀ x ∈ l3, AtSz x := fun x hx => hl1s x (symL_mem _ _ _ _ _ (hl3 ▸ hx))
                            rw [hl1n] at cS3
                            clear hl3
                            repeat (first | refine tr_seq_k fun _ _ => ?_ | (refine tr_region ?_; simp only [go_sem, List.getElem?_toArray, reduceCtorEq, Nat.reduceEqDiff, Nat.reduceLT, ↓reduceIte, d1, d2]) | refine k_of (by assumption) ?_ | (refine tr_skip ?_; try simp only [ex_seq]))
                            refine tr_cond rfl (fun ht => ?_) (fun hf => ?_)
                            · clear d1 d2
                              repeat (first | (refine tr_region ?_; simp only [go_sem, reduceCtorEq, Nat.reduceEqDiff, Nat.reduceLT, ↓reduceIte]) | (refine call_givesW (cS3) ?_; (try dsimp only); (try simp only [go_sem, reduceCtorEq, Nat.reduceEqDiff, Nat.reduceLT, Nat.reduceLeDiff, Nat.reduceAdd, Nat.reduceMul, Nat.reduceSub, Nat.reduceBEq, ↓reduceIte])))
                              exact (hQ _ _ [] rfl rfl (by rw [hT])).1
                            · cases hf
                          · have d1 : decide ((mid : Int) < (e : Int)) = true := decide_eq_true (by omega)
                            have d2 : decide ((e : Int) < (b : Int)) = false := decide_eq_false (by omega)
                            rw [if_neg (fun h => c2 h.2)] at hT
                            repeat (first | refine tr_seq_k fun _ _ => ?_ | (refine tr_region ?_; simp only [go_sem, List.getElem?_toArray, reduceCtorEq, Nat.reduceEqDiff, Nat.reduceLT, ↓reduceIte, d1, d2]) | refine k_of (by assumption) ?_ | (refine tr_skip ?_; try simp only [ex_seq]))
                            refine tr_cond rfl (fun ht => ?_) (fun hf => ?_)
                            · cases ht
                            · clear d1 d2
                              repeat ((refine tr_skip ?_; try simp only [ex_seq, ex_block]))
                              exact (hQ _ _ [] rfl rfl (by rw [hT])).1
                        · have d1 : decide ((mid : Int) < (e : Int)) = false := decide_eq_false (by omega)
                          rw [if_neg (fun h => c1 h.1)] at hT
                          repeat (first | refine tr_seq_k fun _ _ => ?_ | (refine tr_region ?_; simp only [go_sem, List.getElem?_toArray, reduceCtorEq, Nat.reduceEqDiff, Nat.reduceLT, ↓reduceIte, d1]) | refine k_of (by assumption) ?_ | (refine tr_skip ?_; try simp only [ex_seq]))
                          refine tr_cond rfl (fun ht => ?_) (fun hf => ?_)
                          · cases ht
                          · clear d1
                            repeat ((refine tr_skip ?_; try simp only [ex_seq, ex_block]))
                            exact (hQ _ _ [] rfl rfl (by rw [hT])).1
                  · cases hf
                · have d1 : decide ((R : Int) < (m : Int)) = true := decide_eq_true (by omega)
                  have d2 : decide ((m : Int) < (e : Int)) = false := decide_eq_false (by omega)
                  rw [if_neg (fun h => c2 h.2)] at hT
                  repeat (first | refine tr_seq_k fun _ _ => ?_ | (refine tr_region ?_; simp only [go_sem, List.getElem?_toArray, reduceCtorEq, Nat.reduceEqDiff, Nat.reduceLT, ↓reduceIte, w7, d1, d2]) | refine k_of (by assumption) ?_ | (refine tr_exit ?_; try simp only [ex_seq_exit, ex_block_exit, ex_seq, ↓reduceIte]))
                  refine tr_cond rfl (fun ht => ?_) (fun hf => ?_)
                  · cases ht
                  · clear d1 d2
                    unfold symT2 at hT
                    by_cases c1 : a < R
                    · by_cases c2 : R < mid
                      · have d1 : decide ((a : Int) < (R : Int)) = true := decide_eq_true (by omega)
                        have d2 : decide ((R : Int) < (mid : Int)) = true := decide_eq_true (by omega)
                        rw [if_pos ⟨c1, c2⟩] at hT
                        have cS2 := ih l a R mid hw c1 c2 (by omega) (by omega) (by omega) hsz
                        obtain ⟨l2, hl2⟩ : ∃ l2, l2 = symL ltA f l a R mid := ⟨_, rfl⟩
                        rw [← hl2] at cS2 hT
                        have hl2n : l2.length = l.length := by rw [hl2, symL_len]
                        have hl2s : ∀ x ∈ l2, AtSz x := fun x hx => hsz x (symL_mem _ _ _ _ _ (hl2 ▸ hx))
                        clear hl2
                        repeat (first | refine tr_seq_k fun _ _ => ?_ | (refine tr_region ?_; simp only [go_sem, List.getElem?_toArray, reduceCtorEq, Nat.reduceEqDiff, Nat.reduceLT, ↓reduceIte, d1, d2]) | refine k_of (by assumption) ?_ | (refine tr_skip ?_; try simp only [ex_seq]))
                        refine tr_cond rfl (fun ht => ?_) (fun hf => ?_)
                        · clear d1 d2
                          unfold symT3 at hT
                          by_cases c1 : mid < e
                          · by_cases c2 : e < b
                            · have d1 : decide ((mid : Int) < (e : Int)) = true := decide_eq_true (by omega)
                              have d2 : decide ((e : Int) < (b : Int)) = true := decide_eq_true (by omega)
                              rw [if_pos ⟨c1, c2⟩] at hT
                              have cS3 := ih l2 mid e b hw c1 c2 (by omega) (by omega) (by omega) hl2s
                              obtain ⟨l3, hl3⟩ : ∃ l3, l3 = symL ltA f l2 mid e b := ⟨_, rfl⟩
                              rw [← hl3] at cS3 hT
                              have hl3n : l3.length = l.length := by rw [hl3, symL_len]; exact hl2n
                              have hl3s : ∀ x ∈ l3, AtSz x := fun x hx => hl2s x (symL_mem _ _ _ _ _ (hl3 ▸ hx))
                              rw [hl2n] at cS3
                              clear hl3
                              repeat (first | refine tr_seq_k fun _ _ => ?_ | (refine tr_region ?_; simp only [go_sem, List.getElem?_toArray, reduceCtorEq, Nat.reduceEqDiff, Nat.reduceLT, ↓reduceIte, d1, d2]) | (refine call_givesW (cS2) ?_; (try dsimp only); (try simp only [go_sem, reduceCtorEq, Nat.reduceEqDiff, Nat.reduceLT, Nat.reduceLeDiff, Nat.reduceAdd, Nat.reduceMul, Nat.reduceSub, Nat.reduceBEq, ↓reduceIte, d1, d2])) | refine k_of (by assumption) ?_)
                              refine tr_cond rfl (fun ht => ?_) (fun hf => ?_)
                              · clear d1 d2
                                repeat (first | (refine tr_region ?_; simp only [go_sem, reduceCtorEq, Nat.reduceEqDiff, Nat.reduceLT, ↓reduceIte]) | (refine call_givesW (cS3) ?_; (try dsimp only); (try simp only [go_sem, reduceCtorEq, Nat.reduceEqDiff, Nat.reduceLT, Nat.reduceLeDiff, Nat.reduceAdd, Nat.reduceMul, Nat.reduceSub, Nat.reduceBEq, ↓reduceIte])))
                                exact (hQ _ _ [] rfl rfl (by rw [hT])).1
                              · cases hf
                            · have d1 : decide ((mid : Int) < (e : Int)) = true := decide_eq_true (by omega)
                              have d2 : decide ((e : Int) < (b : Int)) = false := decide_eq_false (by omega)
                              rw [if_neg (fun h => c2 h.2)] at hT
                              repeat (first | refine tr_seq_k fun _ _ => ?_ | (refine tr_region ?_; simp only [go_sem, List.getElem?_toArray, reduceCtorEq, Nat.reduceEqDiff, Nat.reduceLT, ↓reduceIte, d1, d2]) | (refine call_givesW (cS2) ?_; (try dsimp only); (try simp only [go_sem, reduceCtorEq, Nat.reduceEqDiff, Nat.reduceLT, Nat.reduceLeDiff, Nat.reduceAdd, Nat.reduceMul, Nat.reduceSub, Nat.reduceBEq, ↓reduceIte, d1, d2])) | refine k_of (by assumption) ?_)
                              refine tr_cond rfl (fun ht => ?_) (fun hf => ?_)
                              · cases ht
                              · clear d1 d2
                                repeat ((refine tr_skip ?_; try simp only [ex_seq, ex_block]))
                                exact (hQ _ _ [] rfl rfl (by rw [hT])).1
                          · have d1 : decide ((mid : Int) < (e : Int)) = false := decide_eq_false (by omega)
                            rw [if_neg (fun h => c1 h.1)] at hT
                            repeat (first | refine tr_seq_k fun _ _ => ?_ | (refine tr_region ?_; simp only [go_sem, List.getElem?_toArray, reduceCtorEq, Nat.reduceEqDiff, Nat.reduceLT, ↓reduceIte, d1]) | (refine call_givesW (cS2) ?_; (try dsimp only); (try simp only [go_sem, reduceCtorEq, Nat.reduceEqDiff, Nat.reduceLT, Nat.reduceLeDiff, Nat.reduceAdd, Nat.reduceMul, Nat.reduceSub, Nat.reduceBEq, ↓reduceIte, d1])) | refine k_of (by assumption) ?_)
                            refine tr_cond rfl (fun ht => ?_) (fun hf => ?_)
                            · cases ht
                            · clear d1
                              repeat ((refine tr_skip ?_; try simp only [ex_seq, ex_block]))
                              exact (hQ _ _ [] rfl rfl (by rw [hT])).1
                        · cases hf
                      · have d1 : decide ((a : Int) < (R : Int)) = true := decide_eq_true (by omega)
                        have d2 : decide ((R : Int) < (mid : Int)) = false := decide_eq_false (by omega)
                        rw [if_neg (fun h => c2 h.2)] at hT
                        repeat (first | refine tr_seq_k fun _ _ => ?_ | (refine tr_region ?_; simp only [go_sem, List.getElem?_toArray, reduceCtorEq, Nat.reduceEqDiff, Nat.reduceLT, ↓reduceIte, d1, d2]) | refine k_of (by assumption) ?_ | (refine tr_skip ?_; try simp only [ex_seq]))
                        refine tr_cond rfl (fun ht => ?_) (fun hf => ?_)
                        · cases ht
                        · clear d1 d2
                          unfold symT3 at hT
                          by_cases c1 : mid < e
                          · by_cases c2 : e < b
                            · have d1 : decide ((mid : Int) < (e : Int)) = true := decide_eq_true (by omega)
                              have d2 : decide ((e : Int) < (b : Int)) = true := decide_eq_true (by omega)
                              rw [if_pos ⟨c1, c2⟩] at hT
                              have cS3 := ih l mid e b hw c1 c2 (by omega) (by omega) (by omega) hsz
                              obtain ⟨l3, hl3⟩ : ∃ l3, l3 = symL ltA f l mid e b := ⟨_, rfl⟩
                              rw [← hl3] at cS3 hT
                              have hl3n : l3.length = l.length := by rw [hl3, symL_len]
                              have hl3s : ∀ x ∈ l3, AtSz x := fun x hx => hsz x (symL_mem _ _ _ _ _ (hl3 ▸ hx))
                              clear hl3
                              repeat (first | refine tr_seq_k fun _ _ => ?_ | (refine tr_region ?_; simp only [go_sem, List.getElem?_toArray, reduceCtorEq, Nat.reduceEqDiff, Nat.reduceLT, ↓reduceIte, d1, d2]) | refine k_of (by assumption) ?_ | (refine tr_skip ?_; try simp only [ex_seq]))
                              refine tr_cond rfl (fun ht => ?_) (fun hf => ?_)
                              · clear d1 d2
                                repeat (first | (refine tr_region ?_; simp only [go_sem, reduceCtorEq, Nat.reduceEqDiff, Nat.reduceLT, ↓reduceIte]) | (refine call_givesW (cS3) ?_; (try dsimp only); (try simp only [go_sem, reduceCtorEq, Nat.reduceEqDiff, Nat.reduceLT, Nat.reduceLeDiff, Nat.reduceAdd, Nat.reduceMul, Nat.reduceSub, Nat.reduceBEq, ↓reduceIte])))
                                exact (hQ _ _ [] rfl rfl (by rw [hT])).1
                              · cases hf
                            · have d1 : decide ((mid : Int) < (e : Int)) = true := decide_eq_true (by omega)
                              have d2 : decide ((e : Int) < (b : Int)) = false := decide_eq_false (by omega)
                              rw [if_neg (fun h => c2 h.2)] at hT
                              repeat (first | refine tr_seq_k fun _ _ => ?_ | (refine tr_region ?_; simp only [go_sem, List.getElem?_toArray, reduceCtorEq, Nat.reduceEqDiff, Nat.reduceLT, ↓reduceIte, d1, d2]) | refine k_of (by assumption) ?_ | (refine tr_skip ?_; try simp only [ex_seq]))
                              refine tr_cond rfl (fun ht => ?_) (fun hf => ?_)
                              · cases ht
                              · clear d1 d2
                                repeat ((refine tr_skip ?_; try simp only [ex_seq, ex_block]))
                                exact (hQ _ _ [] rfl rfl (by rw [hT])).1
                          · have d1 : decide ((mid : Int) < (e : Int)) = false := decide_eq_false (by omega)
                            rw [if_neg (fun h => c1 h.1)] at hT
                            repeat (first | refine tr_seq_k fun _ _ => ?_ | (refine tr_region ?_; simp only [go_sem, List.getElem?_toArray, reduceCtorEq, Nat.reduceEqDiff, Nat.reduceLT, ↓reduceIte, d1]) | refine k_of (by assumption) ?_ | (refine tr_skip ?_; try simp only [ex_seq]))
                            refine tr_cond rfl (fun ht => ?_) (fun hf => ?_)
                            · cases ht
                            · clear d1
                              repeat ((refine tr_skip ?_; try simp only [ex_seq, ex_block]))
                              exact (hQ _ _ [] rfl rfl (by rw [hT])).1
                    · have d1 : decide ((a : Int) < (R : Int)) = false := decide_eq_false (by omega)
                      rw [if_neg (fun h => c1 h.1)] at hT
                      repeat (first | refine tr_seq_k fun _ _ => ?_ | (refine tr_region ?_; simp only [go_sem, List.getElem?_toArray, reduceCtorEq, Nat.reduceEqDiff, Nat.reduceLT, ↓reduceIte, d1]) | refine k_of (by assumption) ?_ | (refine tr_skip ?_; try simp only [ex_seq]))
                      refine tr_cond rfl (fun ht => ?_) (fun hf => ?_)
                      · cases ht
                      · clear d1
                        unfold symT3 at hT
                        by_cases c1 : mid < e
                        · by_cases c2 : e < b
                          · have d1 : decide ((mid : Int) < (e : Int)) = true := decide_eq_true (by omega)
                            have d2 : decide ((e : Int) < (b : Int)) = true := decide_eq_true (by omega)
                            rw [if_pos ⟨c1, c2⟩] at hT
                            have cS3 := ih l mid e b hw c1 c2 (by omega) (by omega) (by omega) hsz
                            obtain ⟨l3, hl3⟩ : ∃ l3, l3 = symL ltA f l mid e b := ⟨_, rfl⟩
                            rw [← hl3] at cS3 hT
                            have hl3n : l3.length = l.length := by rw [hl3, symL_len]
                            have hl3s : ∀ x ∈ l3, AtSz x := fun x hx => hsz x (symL_mem _ _ _ _ _ (hl3 ▸ hx))
                            clear hl3
                            repeat (first | refine tr_seq_k fun _ _ => ?_ | (refine tr_region ?_; simp only [go_sem, List.getElem?_toArray, reduceCtorEq, Nat.reduceEqDiff, Nat.reduceLT, ↓reduceIte, d1, d2]) | refine k_of (by assumption) ?_ | (refine tr_skip ?_; try simp only [ex_seq]))
                            refine tr_cond rfl (fun ht => ?_) (fun hf => ?_)
                            · clear d1 d2
                              repeat (first | (refine tr_region ?_; simp only [go_sem, reduceCtorEq, Nat.reduceEqDiff, Nat.reduceLT, ↓reduceIte]) | (refine call_givesW (cS3) ?_; (try dsimp only); (try simp only [go_sem, reduceCtorEq, Nat.reduceEqDiff, Nat.reduceLT, Nat.reduceLeDiff, Nat.reduceAdd, Nat.reduceMul, Nat.reduceSub, Nat.reduceBEq, ↓reduceIte])))
                              exact (hQ _ _ [] rfl rfl (by rw [hT])).1
                            · cases hf
                          · have d1 : decide ((mid : Int) < (e : Int)) = true := decide_eq_true (by omega)
                            have d2 : decide ((e : Int) < (b : Int)) = false := decide_eq_false (by omega)
                            rw [if_neg (fun h => c2 h.2)] at hT
                            repeat (first | refine tr_seq_k fun _ _ => ?_ | (refine tr_region ?_; simp only [go_sem, List.getElem?_toArray, reduceCtorEq, Nat.reduceEqDiff, Nat.reduceLT, ↓reduceIte, d1, d2]) | refine k_of (by assumption) ?_ | (refine tr_skip ?_; try simp only [ex_seq]))
                            refine tr_cond rfl (fun ht => ?_) (fun hf => ?_)
                            · cases ht
                            · clear d1 d2
                              repeat ((refine tr_skip ?_; try simp only [ex_seq, ex_block]))
                              exact (hQ _ _ [] rfl rfl (by rw [hT])).1
                        · have d1 : decide ((mid : Int) < (e : Int)) = false := decide_eq_false (by omega)
                          rw [if_neg (fun h => c1 h.1)] at hT
                          repeat (first | refine tr_seq_k fun _ _ => ?_ | (refine tr_region ?_; simp only [go_sem, List.getElem?_toArray, reduceCtorEq, Nat.reduceEqDiff, Nat.reduceLT, ↓reduceIte, d1]) | refine k_of (by assumption) ?_ | (refine tr_skip ?_; try simp only [ex_seq]))
                          refine tr_cond rfl (fun ht => ?_) (fun hf => ?_)
                          · cases ht
                          · clear d1
                            repeat ((refine tr_skip ?_; try simp only [ex_seq, ex_block]))
                            exact (hQ _ _ [] rfl rfl (by rw [hT])).1
              · have d1 : decide ((R : Int) < (m : Int)) = false := decide_eq_false (by omega)
                rw [if_neg (fun h => c1 h.1)] at hT
                repeat (first | refine tr_seq_k fun _ _ => ?_ | (refine tr_region ?_; simp only [go_sem, List.getElem?_toArray, reduceCtorEq, Nat.reduceEqDiff, Nat.reduceLT, ↓reduceIte, w7, d1]) | refine k_of (by assumption) ?_ | (refine tr_exit ?_; try simp only [ex_seq_exit, ex_block_exit, ex_seq, ↓reduceIte]))
                refine tr_cond rfl (fun ht => ?_) (fun hf => ?_)
                · cases ht
                · clear d1
                  unfold symT2 at hT
                  by_cases c1 : a < R
                  · by_cases c2 : R < mid
                    · have d1 : decide ((a : Int) < (R : Int)) = true := decide_eq_true (by omega)
                      have d2 : decide ((R : Int) < (mid : Int)) = true := decide_eq_true (by omega)
                      rw [if_pos ⟨c1, c2⟩] at hT
                      have cS2 := ih l a R mid hw c1 c2 (by omega) (by omega) (by omega) hsz
                      obtain ⟨l2, hl2⟩ : ∃ l2, l2 = symL ltA f l a R mid := ⟨_, rfl⟩
                      rw [← hl2] at cS2 hT
                      have hl2n : l2.length = l.length := by rw [hl2, symL_len]
                      have hl2s : ∀ x ∈ l2, AtSz x := fun x hx => hsz x (symL_mem _ _ _ _ _ (hl2 ▸ hx))
                      clear hl2
                      repeat (first | refine tr_seq_k fun _ _ => ?_ | (refine tr_region ?_; simp only [go_sem, List.getElem?_toArray, reduceCtorEq, Nat.reduceEqDiff, Nat.reduceLT, ↓reduceIte, d1, d2]) | refine k_of (by assumption) ?_ | (refine tr_skip ?_; try simp only [ex_seq]))
                      refine tr_cond rfl (fun ht => ?_) (fun hf => ?_)
                      · clear d1 d2
                        unfold symT3 at hT
                        by_cases c1 : mid < e
                        · by_cases c2 : e < b
                          · have d1 : decide ((mid : Int) < (e : Int)) = true := decide_eq_true (by omega)
                            have d2 : decide ((e : Int) < (b : Int)) = true := decide_eq_true (by omega)
                            rw [if_pos ⟨c1, c2⟩] at hT
                            have cS3 := ih l2 mid e b hw c1 c2 (by omega) (by omega) (by omega) hl2s
                            obtain ⟨l3, hl3⟩ : ∃ l3, l3 = symL ltA f l2 mid e b := ⟨_, rfl⟩
                            rw [← hl3] at cS3 hT
                            have hl3n : l3.length = l.length := by rw [hl3, symL_len]; exact hl2n
                            have hl3s : ∀ x ∈ l3, AtSz x := fun x hx => hl2s x (symL_mem _ _ _ _ _ (hl3 ▸ hx))
                            rw [hl2n] at cS3
                            clear hl3
                            repeat (first | refine tr_seq_k fun _ _ => ?_ | (refine tr_region ?_; simp only [go_sem, List.getElem?_toArray, reduceCtorEq, Nat.reduceEqDiff, Nat.reduceLT, ↓reduceIte, d1, d2]) | (refine call_givesW (cS2) ?_; (try dsimp only); (try simp only [go_sem, reduceCtorEq, Nat.reduceEqDiff, Nat.reduceLT, Nat.reduceLeDiff, Nat.reduceAdd, Nat.reduceMul, Nat.reduceSub, Nat.reduceBEq, ↓reduceIte, d1, d2])) | refine k_of (by assumption) ?_)
                            refine tr_cond rfl (fun ht => ?_) (fun hf => ?_)
                            · clear d1 d2
                              repeat (first | (refine tr_region ?_; simp only [go_sem, reduceCtorEq, Nat.reduceEqDiff, Nat.reduceLT, ↓reduceIte]) | (refine call_givesW (cS3) ?_; (try dsimp only); (try simp only [go_sem, reduceCtorEq, Nat.reduceEqDiff, Nat.reduceLT, Nat.reduceLeDiff, Nat.reduceAdd, Nat.reduceMul, Nat.reduceSub, Nat.reduceBEq, ↓reduceIte])))
                              exact (hQ _ _ [] rfl rfl (by rw [hT])).1
                            · cases hf
                          · have d1 : decide ((mid : Int) < (e : Int)) = true := decide_eq_true (by omega)
                            have d2 : decide ((e : Int) < (b : Int)) = false := decide_eq_false (by omega)
                            rw [if_neg (fun h => c2 h.2)] at hT
                            repeat (first | refine tr_seq_k fun _ _ => ?_ | (refine tr_region ?_; simp only [go_sem, List.getElem?_toArray, reduceCtorEq, Nat.reduceEqDiff, Nat.reduceLT, ↓reduceIte, d1, d2]) | (refine call_givesW (cS2) ?_; (try dsimp only); (try simp only [go_sem, reduceCtorEq, Nat.reduceEqDiff, Nat.reduceLT, Nat.reduceLeDiff, Nat.reduceAdd, Nat.reduceMul, Nat.reduceSub, Nat.reduceBEq, ↓reduceIte, d1, d2])) | refine k_of (by assumption) ?_)
                            refine tr_cond rfl (fun ht => ?_) (fun hf => ?_)
                            · cases ht
                            · clear d1 d2
                              repeat ((refine tr_skip ?_; try simp only [ex_seq, ex_block]))
                              exact (hQ _ _ [] rfl rfl (by rw [hT])).1
                        · have d1 : decide ((mid : Int) < (e : Int)) = false := decide_eq_false (by omega)
                          rw [if_neg (fun h => c1 h.1)] at hT
                          repeat (first | refine tr_seq_k fun _ _ => ?_ | (refine tr_region ?_; simp only [go_sem, List.getElem?_toArray, reduceCtorEq, Nat.reduceEqDiff, Nat.reduceLT, ↓reduceIte, d1]) | (refine call_givesW (cS2) ?_; (try dsimp only); (try simp only [go_sem, reduceCtorEq, Nat.reduceEqDiff, Nat.reduceLT, Nat.reduceLeDiff, Nat.reduceAdd, Nat.reduceMul, Nat.reduceSub, Nat.reduceBEq, ↓reduceIte, d1])) | refine k_of (by assumption) ?_)
                          refine tr_cond rfl (fun ht => ?_) (fun hf => ?_)
                          · cases ht
                          · clear d1
                            repeat ((refine tr_skip ?_; try simp only [ex_seq, ex_block]))
                            exact (hQ _ _ [] rfl rfl (by rw [hT])).1
                      · cases hf
                    · have d1 : decide ((a : Int) < (R : Int)) = true := decide_eq_true (by omega)
                      have d2 : decide ((R : Int) < (mid : Int)) = false := decide_eq_false (by omega)
                      rw [if_neg (fun h => c2 h.2)] at hT
                      repeat (first | refine tr_seq_k fun _ _ => ?_ | (refine tr_region ?_; simp only [go_sem, List.getElem?_toArray, reduceCtorEq, Nat.reduceEqDiff, Nat.reduceLT, ↓reduceIte, d1, d2]) | refine k_of (by assumption) ?_ | (refine tr_skip ?_; try simp only [ex_seq]))
                      refine tr_cond rfl (fun ht => ?_) (fun hf => ?_)
                      · cases ht
                      · clear d1 d2
                        unfold symT3 at hT
                        by_cases c1 : mid < e
                        · by_cases c2 : e < b
                          · have d1 : decide ((mid : Int) < (e : Int)) = true := decide_eq_true (by omega)
                            have d2 : decide ((e : Int) < (b : Int)) = true := decide_eq_true (by omega)
                            rw [if_pos ⟨c1, c2⟩] at hT
                            have cS3 := ih l mid e b hw c1 c2 (by omega) (by omega) (by omega) hsz
                            obtain ⟨l3, hl3⟩ : ∃ l3, l3 = symL ltA f l mid e b := ⟨_, rfl⟩
                            rw [← hl3] at cS3 hT
                            have hl3n : l3.length = l.length := by rw [hl3, symL_len]
                            have hl3s : ∀ x ∈ l3, AtSz x := fun x hx => hsz x (symL_mem _ _ _ _ _ (hl3 ▸ hx))
                            clear hl3
                            repeat (first | refine tr_seq_k fun _ _ => ?_ | (refine tr_region ?_; simp only [go_sem, List.getElem?_toArray, reduceCtorEq, Nat.reduceEqDiff, Nat.reduceLT, ↓reduceIte, d1, d2]) | refine k_of (by assumption) ?_ | (refine tr_skip ?_; try simp only [ex_seq]))
                            refine tr_cond rfl (fun ht => ?_) (fun hf => ?_)
                            · clear d1 d2
                              repeat (first | (refine tr_region ?_; simp only [go_sem, reduceCtorEq, Nat.reduceEqDiff, Nat.reduceLT, ↓reduceIte]) | (refine call_givesW (cS3) ?_; (try dsimp only); (try simp only [go_sem, reduceCtorEq, Nat.reduceEqDiff, Nat.reduceLT, Nat.reduceLeDiff, Nat.reduceAdd, Nat.reduceMul, Nat.reduceSub, Nat.reduceBEq, ↓reduceIte])))
                              exact (hQ _ _ [] rfl rfl (by rw [hT])).1
                            · cases hf
                          · have d1 : decide ((mid : Int) < (e : Int)) = true := decide_eq_true (by omega)
                            have d2 : decide ((e : Int) < (b : Int)) = false := decide_eq_false (by omega)
                            rw [if_neg (fun h => c2 h.2)] at hT
                            repeat (first | refine tr_seq_k fun _ _ => ?_ | (refine tr_region ?_; simp only [go_sem, List.getElem?_toArray, reduceCtorEq, Nat.reduceEqDiff, Nat.reduceLT, ↓reduceIte, d1, d2]) | refine k_of (by assumption) ?_ | (refine tr_skip ?_; try simp only [ex_seq]))
                            refine tr_cond rfl (fun ht => ?_) (fun hf => ?_)
                            · cases ht
                            · clear d1 d2
                              repeat ((refine tr_skip ?_; try simp only [ex_seq, ex_block]))
                              exact (hQ _ _ [] rfl rfl (by rw [hT])).1
                        · have d1 : decide ((mid : Int) < (e : Int)) = false := decide_eq_false (by omega)
                          rw [if_neg (fun h => c1 h.1)] at hT
                          repeat (first | refine tr_seq_k fun _ _ => ?_ | (refine tr_region ?_; simp only [go_sem, List.getElem?_toArray, reduceCtorEq, Nat.reduceEqDiff, Nat.reduceLT, ↓reduceIte, d1]) | refine k_of (by assumption) ?_ | (refine tr_skip ?_; try simp only [ex_seq]))
                          refine tr_cond rfl (fun ht => ?_) (fun hf => ?_)
                          · cases ht
                          · clear d1
                            repeat ((refine tr_skip ?_; try simp only [ex_seq, ex_block]))
                            exact (hQ _ _ [] rfl rfl (by rw [hT])).1
                  · have d1 : decide ((a : Int) < (R : Int)) = false := decide_eq_false (by omega)
                    rw [if_neg (fun h => c1 h.1)] at hT
                    repeat (first | refine tr_seq_k fun _ _ => ?_ | (refine tr_region ?_; simp only [go_sem, List.getElem?_toArray, reduceCtorEq, Nat.reduceEqDiff, Nat.reduceLT, ↓reduceIte, d1]) | refine k_of (by assumption) ?_ | (refine tr_skip ?_; try simp only [ex_seq]))
                    refine tr_cond rfl (fun ht => ?_) (fun hf => ?_)
                    · cases ht
                    · clear d1
                      unfold symT3 at hT
                      by_cases c1 : mid < e
                      · by_cases c2 : e < b
                        · have d1 : decide ((mid : Int) < (e : Int)) = true := decide_eq_true (by omega)
                          have d2 : decide ((e : Int) < (b : Int)) = true := decide_eq_true (by omega)
                          rw [if_pos ⟨c1, c2⟩] at hT
                          have cS3 := ih l mid e b hw c1 c2 (by omega) (by omega) (by omega) hsz
                          obtain ⟨l3, hl3⟩ : ∃ l3, l3 = symL ltA f l mid e b := ⟨_, rfl⟩
                          rw [← hl3] at cS3 hT
                          have hl3n : l3.length = l.length := by rw [hl3, symL_len]
                          have hl3s : ∀ x ∈ l3, AtSz x := fun x hx => hsz x (symL_mem _ _ _ _ _ (hl3 ▸ hx))
                          clear hl3
                          repeat (first | refine tr_seq_k fun _ _ => ?_ | (refine tr_region ?_; simp only [go_sem, List.getElem?_toArray, reduceCtorEq, Nat.reduceEqDiff, Nat.reduceLT, ↓reduceIte, d1, d2]) | refine k_of (by assumption) ?_ | (refine tr_skip ?_; try simp only [ex_seq]))
                          refine tr_cond rfl (fun ht => ?_) (fun hf => ?_)
                          · clear d1 d2
                            repeat (first | (refine tr_region ?_; simp only [go_sem, reduceCtorEq, Nat.reduceEqDiff, Nat.reduceLT, ↓reduceIte]) | (refine call_givesW (cS3) ?_; (try dsimp only); (try simp only [go_sem, reduceCtorEq, Nat.reduceEqDiff, Nat.reduceLT, Nat.reduceLeDiff, Nat.reduceAdd, Nat.reduceMul, Nat.reduceSub, Nat.reduceBEq, ↓reduceIte])))
                            exact (hQ _ _ [] rfl rfl (by rw [hT])).1
                          · cases hf
                        · have d1 : decide ((mid : Int) < (e : Int)) = true := decide_eq_true (by omega)
                          have d2 : decide ((e : Int) < (b : Int)) = false := decide_eq_false (by omega)
                          rw [if_neg (fun h => c2 h.2)] at hT
                          repeat (first | refine tr_seq_k fun _ _ => ?_ | (refine tr_region ?_; simp only [go_sem, List.getElem?_toArray, reduceCtorEq, Nat.reduceEqDiff, Nat.reduceLT, ↓reduceIte, d1, d2]) | refine k_of (by assumption) ?_ | (refine tr_skip ?_; try simp only [ex_seq]))
                          refine tr_cond rfl (fun ht => ?_) (fun hf => ?_)
                          · cases ht
                          · clear d1 d2
                            repeat ((refine tr_skip ?_; try simp only [ex_seq, ex_block]))
                            exact (hQ _ _ [] rfl rfl (by rw [hT])).1
                      · have d1 : decide ((mid : Int) < (e : Int)) = false := decide_eq_false (by omega)
                        rw [if_neg (fun h => c1 h.1)] at hT
                        repeat (first | refine tr_seq_k fun _ _ => ?_ | (refine tr_region ?_; simp only [go_sem, List.getElem?_toArray, reduceCtorEq, Nat.reduceEqDiff, Nat.reduceLT, ↓reduceIte, d1]) | refine k_of (by assumption) ?_ | (refine tr_skip ?_; try simp only [ex_seq]))
                        refine tr_cond rfl (fun ht => ?_) (fun hf => ?_)
                        · cases ht
                        · clear d1
                          repeat ((refine tr_skip ?_; try simp only [ex_seq, ex_block]))
                          exact (hQ _ _ [] rfl rfl (by rw [hT])).1
        · cases hf
  · rw [if_neg hmm, if_neg hmm] at hT0
    obtain ⟨R, hR⟩ : ∃ R, R = bs (fun c => !ltAt ltA l (nn - 1 - c) c) (m - a + 1) a m := ⟨_, rfl⟩
    have hTT : ∀ S, S = R → T = symT2 ltA f (if S < m ∧ m < nn - S then rotL m (nn - S - S) l (m - S) (nn - S - m) else l) a b mid S (nn - S) := fun S hS => by rw [hS, hR]; exact hT0
    clear hT0
    have q0 : decide ((m : Int) > (mid : Int)) = false := decide_eq_false (by omega)
    refine givesW_of' Tryd.func53 rfl (by kernel_rfl) Tryd.ntmps53 rfl rfl fun Q hQ => ?_
    repeat (first | refine tr_seq_k fun _ _ => ?_ | (refine tr_region ?_; simp only [go_sem, reduceCtorEq, Nat.reduceEqDiff, Nat.reduceLT, Nat.reduceAdd, ↓reduceIte, w1, e0']) | refine k_of (by assumption) ?_)
    refine tr_cond rfl (fun ht => ?_) (fun hf => ?_)
    · cases ht
    · repeat (first | refine tr_seq_k fun _ _ => ?_ | (refine tr_region ?_; simp only [go_sem, reduceCtorEq, Nat.reduceEqDiff, Nat.reduceLT, ↓reduceIte, w2, e1']) | refine k_of (by assumption) ?_ | (refine tr_skip ?_; try simp only [ex_seq]))
      refine tr_cond rfl (fun ht => ?_) (fun hf => ?_)
      · cases ht
      · repeat (first | refine tr_seq_k fun _ _ => ?_ | (refine tr_region ?_; simp only [go_sem, reduceCtorEq, Nat.reduceEqDiff, Nat.reduceLT, ↓reduceIte, w3, cu, sh, ci, w4, q0]) | refine k_of (by assumption) ?_ | (refine tr_skip ?_; try simp only [ex_seq]))
        refine tr_cond rfl (fun ht => ?_) (fun hf => ?_)
        · cases ht
        · repeat (first | refine tr_seq_k fun _ _ => ?_ | (refine tr_region ?_; simp only [go_sem, reduceCtorEq, Nat.reduceEqDiff, Nat.reduceLT, ↓reduceIte, w6]) | refine k_of (by assumption) ?_ | refine tr_block ?_)
          refine tr_loop_k (σ := Nat × Nat × Nat) (fun q => [(0, .lsl 0 0 l.length 11), (1, iA a), (2, iA m), (3, iA b), (4, cmpF), (18, iA mid), (19, iA nn), (22, iA ((nn - 1 : Nat) : Int)), (20, iA q.2.1), (21, iA q.2.2)]) (fun q => ⟨[⟨false, blC atC l⟩], hw⟩)
            (fun q => R = bs (fun c => !ltAt ltA l (nn - 1 - c) c) (q.1 + 1) q.2.1 q.2.2 ∧ a ≤ q.2.1 ∧ q.2.1 ≤ q.2.2 ∧ q.2.2 ≤ m ∧ q.2.2 - q.2.1 ≤ q.1) (fun q => q.2.2 - q.2.1) (m - a, a, m) ⟨hR, Nat.le_refl _, by dsimp only; omega, Nat.le_refl _, Nat.le_refl _⟩ ⟨rfl, rfl, rfl, rfl, rfl, rfl, rfl, rfl, rfl, rfl, trivial⟩ rfl ?_
          rintro ⟨g, i, j⟩ ⟨hRR, hmi, hij, hjb, hg⟩ K hK
          dsimp only at hRR hmi hij hjb hg ⊢
          by_cases hlt : i < j
          · have q1 : decide ((i : Int) < (j : Int)) = true := decide_eq_true (by omega)
            obtain ⟨g, rfl⟩ : ∃ z, g = z + 1 := ⟨g - 1, by omega⟩
            have w2 := wrap_addN (show i + j ≤ 1000000000 by omega)
            have w2b : i + j ≤ 1000000000 := by omega
            have w2c : (i + j) / 2 ≤ 1000000000 := by omega
            have hR2 := bs_hit hRR hlt
            have hh1 : i ≤ (i + j) / 2 := by omega
            have hh2 : (i + j) / 2 < j := by omega
            have sh := shO (i + j)
            have cu := cvU _ w2b
            have ci := cvI _ w2c
            generalize (i + j) / 2 = h at *
            have ws := wrap_succ (show h ≤ 1000000000 by omega)
            have wp := wrap_subN (show h ≤ nn - 1 by omega) (by omega)
            have hx : nn - 1 - h < l.length := by omega
            have hy : h < l.length := by omega
            have cC := cmpA_does l[nn - 1 - h] l[h] (hsz _ (List.getElem_mem hx)) (hsz _ (List.getElem_mem hy))
            have hlt2 := cmpA_lt l[nn - 1 - h] l[h]
            have d1 := drLA hx
            have d2 := drLA hy
            rw [ltAt_eq hx hy] at hR2
            cases hz : ltA l[nn - 1 - h] l[h] with
            | true =>
              rw [hz] at hlt2 hR2
              rw [if_neg (by decide)] at hR2
              repeat (first | refine tr_seq_k fun _ _ => ?_ | (refine tr_region ?_; simp only [go_sem, reduceCtorEq, Nat.reduceEqDiff, Nat.reduceLT, ↓reduceIte, q1]) | refine k_of (by assumption) ?_)
              refine tr_cond rfl (fun ht => ?_) (fun hf => ?_)
              · repeat (first | refine tr_seq_k fun _ _ => ?_ | (refine tr_region ?_; simp only [go_sem, reduceCtorEq, Nat.reduceEqDiff, Nat.reduceLT, ↓reduceIte, w2, cu, ci, sh]) | (refine tr_draw (id := 35) follows 10000 [11] [0, 1, 2, 3, 4, 5, 6, 7, 8, 9, 10, 11, 12, 13] (by kernel_rfl) ?_; simp only [go_sem, List.getElem?_toArray, reduceCtorEq, Nat.reduceEqDiff, Nat.reduceLT, ↓reduceIte, wp, ixLA hx, ixLA hy, d1, d2, fitLA hx, fitLA hy]) | (refine call_of (cC) ?_ ?_; (first | rfl | simp only [go_sem, reduceCtorEq, Nat.reduceEqDiff, Nat.reduceLT, Nat.reduceLeDiff, Nat.reduceAdd, Nat.reduceMul, Nat.reduceSub, Nat.reduceBEq, ↓reduceIte, w2, cu, ci, sh, wp, ixLA hx, ixLA hy, d1, d2, fitLA hx, fitLA hy, hlt2, shut_col]); simp only [go_sem, reduceCtorEq, Nat.reduceEqDiff, Nat.reduceLT, ↓reduceIte, Bool.true_or, hlt2]) | refine k_of (by assumption) ?_ | refine tr_block ?_ | (refine tr_skip ?_; try simp only [ex_seq]))
                refine tr_cond rfl (fun ht => ?_) (fun hf => ?_)
                · cases ht
                · repeat ((refine tr_region ?_; simp only [go_sem, reduceCtorEq, Nat.reduceEqDiff, Nat.reduceLT, ↓reduceIte]))
                  exact hK (g, i, h) _ _ ⟨hR2, by dsimp only; omega, by dsimp only; omega, by dsimp only; omega, by dsimp only; omega⟩ ⟨⟨rfl, rfl, rfl, rfl, rfl, rfl, rfl, rfl, rfl, rfl, trivial⟩, Keep.refl _, rfl, by simp only [lowB, lows_blC]; rfl, Nat.le_refl _, Nat.le_refl _⟩ (by dsimp only; omega)
              · cases hf
            | false =>
              rw [hz] at hlt2 hR2
              rw [if_pos (by decide)] at hR2
              repeat (first | refine tr_seq_k fun _ _ => ?_ | (refine tr_region ?_; simp only [go_sem, reduceCtorEq, Nat.reduceEqDiff, Nat.reduceLT, ↓reduceIte, q1]) | refine k_of (by assumption) ?_)
              refine tr_cond rfl (fun ht => ?_) (fun hf => ?_)
              · repeat (first | refine tr_seq_k fun _ _ => ?_ | (refine tr_region ?_; simp only [go_sem, reduceCtorEq, Nat.reduceEqDiff, Nat.reduceLT, ↓reduceIte, w2, cu, ci, sh]) | (refine tr_draw (id := 35) follows 10000 [11] [0, 1, 2, 3, 4, 5, 6, 7, 8, 9, 10, 11, 12, 13] (by kernel_rfl) ?_; simp only [go_sem, List.getElem?_toArray, reduceCtorEq, Nat.reduceEqDiff, Nat.reduceLT, ↓reduceIte, wp, ixLA hx, ixLA hy, d1, d2, fitLA hx, fitLA hy]) | (refine call_of (cC) ?_ ?_; (first | rfl | simp only [go_sem, reduceCtorEq, Nat.reduceEqDiff, Nat.reduceLT, Nat.reduceLeDiff, Nat.reduceAdd, Nat.reduceMul, Nat.reduceSub, Nat.reduceBEq, ↓reduceIte, w2, cu, ci, sh, wp, ixLA hx, ixLA hy, d1, d2, fitLA hx, fitLA hy, hlt2, shut_col]); simp only [go_sem, reduceCtorEq, Nat.reduceEqDiff, Nat.reduceLT, ↓reduceIte, Bool.true_or, hlt2]) | refine k_of (by assumption) ?_ | refine tr_block ?_ | (refine tr_skip ?_; try simp only [ex_seq]))
                refine tr_cond rfl (fun ht => ?_) (fun hf => ?_)
                · repeat ((refine tr_region ?_; simp only [go_sem, reduceCtorEq, Nat.reduceEqDiff, Nat.reduceLT, ↓reduceIte, ws]))
                  exact hK (g, h + 1, j) _ _ ⟨hR2, by dsimp only; omega, by dsimp only; omega, by dsimp only; omega, by dsimp only; omega⟩ ⟨⟨rfl, rfl, rfl, rfl, rfl, rfl, rfl, rfl, rfl, rfl, trivial⟩, Keep.refl _, rfl, by simp only [lowB, lows_blC]; rfl, Nat.le_refl _, Nat.le_refl _⟩ (by dsimp only; omega)
                · cases hf
              · cases hf
          · have q1 : decide ((i : Int) < (j : Int)) = false := decide_eq_false (by omega)
            obtain rfl : R = i := bs_end hRR hlt
            repeat (first | refine tr_seq_k fun _ _ => ?_ | (refine tr_region ?_; simp only [go_sem, reduceCtorEq, Nat.reduceEqDiff, Nat.reduceLT, ↓reduceIte, q1]) | refine k_of (by assumption) ?_)
            refine tr_cond rfl (fun ht => ?_) (fun hf => ?_)
            · cases ht
            · have hRm : a ≤ R := hmi
              have hRr : R ≤ m := by omega
              have w7 := wrap_subN (show R ≤ nn by omega) (by omega)
              have hT := hTT R rfl
              obtain ⟨e, he⟩ : ∃ e, e = nn - R := ⟨_, rfl⟩
              rw [← he] at w7 hT
              by_cases c1 : R < m
              · by_cases c2 : m < e
                · have d1 : decide ((R : Int) < (m : Int)) = true := decide_eq_true (by omega)
                  have d2 : decide ((m : Int) < (e : Int)) = true := decide_eq_true (by omega)
                  rw [if_pos ⟨c1, c2⟩] at hT
                  have cS1 := rot_gives l R m e hw c1 c2 (by omega) (by omega)
                  obtain ⟨l1, hl1⟩ : ∃ l1, l1 = rotL m (e - R) l (m - R) (e - m) := ⟨_, rfl⟩
                  rw [← hl1] at cS1 hT
                  have hl1n : l1.length = l.length := by rw [hl1, rotL_len]
                  have hl1s : ∀ x ∈ l1, AtSz x := fun x hx => hsz x (rotL_mem _ _ _ _ (hl1 ▸ hx))
                  clear hl1
                  repeat (first | refine tr_seq_k fun _ _ => ?_ | (refine tr_region ?_; simp only [go_sem, List.getElem?_toArray, reduceCtorEq, Nat.reduceEqDiff, Nat.reduceLT, ↓reduceIte, w7, d1, d2]) | refine k_of (by assumption) ?_ | (refine tr_exit ?_; try simp only [ex_seq_exit, ex_block_exit, ex_seq, ↓reduceIte]))
                  refine tr_cond rfl (fun ht => ?_) (fun hf => ?_)
                  · clear d1 d2
                    unfold symT2 at hT
                    by_cases c1 : a < R
                    · by_cases c2 : R < mid
                      · have d1 : decide ((a : Int) < (R : Int)) = true := decide_eq_true (by omega)
                        have d2 : decide ((R : Int) < (mid : Int)) = true := decide_eq_true (by omega)
                        rw [if_pos ⟨c1, c2⟩] at hT
                        have cS2 := ih l1 a R mid hw c1 c2 (by omega) (by omega) (by omega) hl1s
                        obtain ⟨l2, hl2⟩ : ∃ l2, l2 = symL ltA f l1 a R mid := ⟨_, rfl⟩
                        rw [← hl2] at cS2 hT
                        have hl2n : l2.length = l.length := by rw [hl2, symL_len]; exact hl1n
                        have hl2s : ∀ x ∈ l2, AtSz x := fun x hx => hl1s x (symL_mem _ _ _ _ _ (hl2 ▸ hx))
                        rw [hl1n] at cS2
                        clear hl2
                        repeat (first | refine tr_seq_k fun _ _ => ?_ | (refine tr_region ?_; simp only [go_sem, List.getElem?_toArray, reduceCtorEq, Nat.reduceEqDiff, Nat.reduceLT, ↓reduceIte, d1, d2]) | (refine call_givesW (cS1) ?_; (try dsimp only); (try simp only [go_sem, reduceCtorEq, Nat.reduceEqDiff, Nat.reduceLT, Nat.reduceLeDiff, Nat.reduceAdd, Nat.reduceMul, Nat.reduceSub, Nat.reduceBEq, ↓reduceIte, d1, d2])) | refine k_of (by assumption) ?_)
                        refine tr_cond rfl (fun ht => ?_) (fun hf => ?_)
                        · clear d1 d2
                          unfold symT3 at hT
                          by_cases c1 : mid < e
                          · by_cases c2 : e < b
                            · have d1 : decide ((mid : Int) < (e : Int)) = true := decide_eq_true (by omega)
                              have d2 : decide ((e : Int) < (b : Int)) = true := decide_eq_true (by omega)
                              rw [if_pos ⟨c1, c2⟩] at hT
                              have cS3 := ih l2 mid e b hw c1 c2 (by omega) (by omega) (by omega) hl2s
                              obtain ⟨l3, hl3⟩ : ∃ l3, l3 = symL ltA f l2 mid e b := ⟨_, rfl⟩
                              rw [← hl3] at cS3 hT
                              have hl3n : l3.length = l.length := by rw [hl3, symL_len]; exact hl2n
                              have hl3s : ∀ x ∈ l3, AtSz x := fun x hx => hl2s x (symL_mem _ _ _ _ _ (hl3 ▸ hx))
                              rw [hl2n] at cS3
                              clear hl3
                              repeat (first | refine tr_seq_k fun _ _ => ?_ | (refine tr_region ?_; simp only [go_sem, List.getElem?_toArray, reduceCtorEq, Nat.reduceEqDiff, Nat.reduceLT, ↓reduceIte, d1, d2]) | (refine call_givesW (cS2) ?_; (try dsimp only); (try simp only [go_sem, reduceCtorEq, Nat.reduceEqDiff, Nat.reduceLT, Nat.reduceLeDiff, Nat.reduceAdd, Nat.reduceMul, Nat.reduceSub, Nat.reduceBEq, ↓reduceIte, d1, d2])) | refine k_of (by assumption) ?_)
                              refine tr_cond rfl (fun ht => ?_) (fun hf => ?_)
                              · clear d1 d2
                                repeat (first | (refine tr_region ?_; simp only [go_sem, reduceCtorEq, Nat.reduceEqDiff, Nat.reduceLT, ↓reduceIte]) | (refine call_givesW (cS3) ?_; (try dsimp only); (try simp only [go_sem, reduceCtorEq, Nat.reduceEqDiff, Nat.reduceLT, Nat.reduceLeDiff, Nat.reduceAdd, Nat.reduceMul, Nat.reduceSub, Nat.reduceBEq, ↓reduceIte])))
                                exact (hQ _ _ [] rfl rfl (by rw [hT])).1
                              · cases hf
                            · have d1 : decide ((mid : Int) < (e : Int)) = true := decide_eq_true (by omega)
                              have d2 : decide ((e : Int) < (b : Int)) = false := decide_eq_false (by omega)
                              rw [if_neg (fun h => c2 h.2)] at hT
                              repeat (first | refine tr_seq_k fun _ _ => ?_ | (refine tr_region ?_; simp only [go_sem, List.getElem?_toArray, reduceCtorEq, Nat.reduceEqDiff, Nat.reduceLT, ↓reduceIte, d1, d2]) | (refine call_givesW (cS2) ?_; (try dsimp only); (try simp only [go_sem, reduceCtorEq, Nat.reduceEqDiff, Nat.reduceLT, Nat.reduceLeDiff, Nat.reduceAdd, Nat.reduceMul, Nat.reduceSub, Nat.reduceBEq, ↓reduceIte, d1, d2])) | refine k_of (by assumption) ?_)
                              refine tr_cond rfl (fun ht => ?_) (fun hf => ?_)
                              · cases ht
                              · clear d1 d2
                                repeat ((refine tr_skip ?_; try simp only [ex_seq, ex_block]))
                                exact (hQ _ _ [] rfl rfl (by rw [hT])).1
                          · have d1 : decide ((mid : Int) < (e : Int)) = false := decide_eq_false (by omega)
                            rw [if_neg (fun h => c1 h.1)] at hT
                            repeat (first | refine tr_seq_k fun _ _ => ?_ | (refine tr_region ?_; simp only [go_sem, List.getElem?_toArray, reduceCtorEq, Nat.reduceEqDiff, Nat.reduceLT, ↓reduceIte, d1]) | (refine call_givesW (cS2) ?_; (try dsimp only); (try simp only [go_sem, reduceCtorEq, Nat.reduceEqDiff, Nat.reduceLT, Nat.reduceLeDiff, Nat.reduceAdd, Nat.reduceMul, Nat.reduceSub, Nat.reduceBEq, ↓reduceIte, d1])) | refine k_of (by assumption) ?_)
                            refine tr_cond rfl (fun ht => ?_) (fun hf => ?_)
                            · cases ht
                            · clear d1
                              repeat ((refine tr_skip ?_; try simp only [ex_seq, ex_block]))
                              exact (hQ _ _ [] rfl rfl (by rw [hT])).1
                        · cases hf
                      · have d1 : decide ((a : Int) < (R : Int)) = true := decide_eq_true (by omega)
                        have d2 : decide ((R : Int) < (mid : Int)) = false := decide_eq_false (by omega)
                        rw [if_neg (fun h => c2 h.2)] at hT
                        repeat (first | refine tr_seq_k fun _ _ => ?_ | (refine tr_region ?_; simp only [go_sem, List.getElem?_toArray, reduceCtorEq, Nat.reduceEqDiff, Nat.reduceLT, ↓reduceIte, d1, d2]) | (refine call_givesW (cS1) ?_; (try dsimp only); (try simp only [go_sem, reduceCtorEq, Nat.reduceEqDiff, Nat.reduceLT, Nat.reduceLeDiff, Nat.reduceAdd, Nat.reduceMul, Nat.reduceSub, Nat.reduceBEq, ↓reduceIte, d1, d2])) | refine k_of (by assumption) ?_)
                        refine tr_cond rfl (fun ht => ?_) (fun hf => ?_)
                        · cases ht
                        · clear d1 d2
                          unfold symT3 at hT
                          by_cases c1 : mid < e
                          · by_cases c2 : e < b
                            · have d1 : decide ((mid : Int) < (e : Int)) = true := decide_eq_true (by omega)
                              have d2 : decide ((e : Int) < (b : Int)) = true := decide_eq_true (by omega)
                              rw [if_pos ⟨c1, c2⟩] at hT
                              have cS3 := ih l1 mid e b hw c1 c2 (by omega) (by omega) (by omega) hl1s
                              obtain ⟨l3, hl3⟩ : ∃ l3, l3 = symL ltA f l1 mid e b := ⟨_, rfl⟩
                              rw [← hl3] at cS3 hT
                              have hl3n : l3.length = l.length := by rw [hl3, symL_len]; exact hl1n
                              have hl3s : ∀ x ∈ l3, AtSz x := fun x hx => hl1s x (symL_mem _ _ _ _ _ (hl3 ▸ hx))
                              rw [hl1n] at cS3
                              clear hl3
                              repeat (first | refine tr_seq_k fun _ _ => ?_ | (refine tr_region ?_; simp only [go_sem, List.getElem?_toArray, reduceCtorEq, Nat.reduceEqDiff, Nat.reduceLT, ↓reduceIte, d1, d2]) | refine k_of (by assumption) ?_ | (refine tr_skip ?_; try simp only [ex_seq]))
                              refine tr_cond rfl (fun ht => ?_) (fun hf => ?_)
                              · clear d1 d2
                                repeat (first | (refine tr_region ?_; simp only [go_sem, reduceCtorEq, Nat.reduceEqDiff, Nat.reduceLT, ↓reduceIte]) | (refine call_givesW (cS3) ?_; (try dsimp only); (try simp only [go_sem, reduceCtorEq, Nat.reduceEqDiff, Nat.reduceLT, Nat.reduceLeDiff, Nat.reduceAdd, Nat.reduceMul, Nat.reduceSub, Nat.reduceBEq, ↓reduceIte])))
                                exact (hQ _ _ [] rfl rfl (by rw [hT])).1
                              · cases hf
                            · have d1 : decide ((mid : Int) < (e : Int)) = true := decide_eq_true (by omega)
                              have d2 : decide ((e : Int) < (b : Int)) = false := decide_eq_false (by omega)
                              rw [if_neg (fun h => c2 h.2)] at hT
                              repeat (first | refine tr_seq_k fun _ _ => ?_ | (refine tr_region ?_; simp only [go_sem, List.getElem?_toArray, reduceCtorEq, Nat.reduceEqDiff, Nat.reduceLT, ↓reduceIte, d1, d2]) | refine k_of (by assumption) ?_ | (refine tr_skip ?_; try simp only [ex_seq]))
                              refine tr_cond rfl (fun ht => ?_) (fun hf => ?_)
                              · cases ht
                              · clear d1 d2
                                repeat ((refine tr_skip ?_; try simp only [ex_seq, ex_block]))
                                exact (hQ _ _ [] rfl rfl (by rw [hT])).1
                          · have d1 : decide ((mid : Int) < (e : Int)) = false := decide_eq_false (by omega)
                            rw [if_neg (fun h => c1 h.1)] at hT
                            repeat (first | refine tr_seq_k fun _ _ => ?_ | (refine tr_region ?_; simp only [go_sem, List.getElem?_toArray, reduceCtorEq, Nat.reduceEqDiff, Nat.reduceLT, ↓reduceIte, d1]) | refine k_of (by assumption) ?_ | (refine tr_skip ?_; try simp only [ex_seq]))
                            refine tr_cond rfl (fun ht => ?_) (fun hf => ?_)
                            · cases ht
                            · clear d1
                              repeat ((refine tr_skip ?_; try simp only [ex_seq, ex_block]))
                              exact (hQ _ _ [] rfl rfl (by rw [hT])).1
                    · have d1 : decide ((a : Int) < (R : Int)) = false := decide_eq_false (by omega)
                      rw [if_neg (fun h => c1 h.1)] at hT
                      repeat (first | refine tr_seq_k fun _ _ => ?_ | (refine tr_region ?_; simp only [go_sem, List.getElem?_toArray, reduceCtorEq, Nat.reduceEqDiff, Nat.reduceLT, ↓reduceIte, d1]) | (refine call_givesW (cS1) ?_; (try dsimp only); (try simp only [go_sem, reduceCtorEq, Nat.reduceEqDiff, Nat.reduceLT, Nat.reduceLeDiff, Nat.reduceAdd, Nat.reduceMul, Nat.reduceSub, Nat.reduceBEq, ↓reduceIte, d1])) | refine k_of (by assumption) ?_)
                      refine tr_cond rfl (fun ht => ?_) (fun hf => ?_)
                      · cases ht
                      · clear d1
                        unfold symT3 at hT
                        by_cases c1 : mid < e
                        · by_cases c2 : e < b
                          · have d1 : decide ((mid : Int) < (e : Int)) = true := decide_eq_true (by omega)
                            have d2 : decide ((e : Int) < (b : Int)) = true := decide_eq_true (by omega)
                            rw [if_pos ⟨c1, c2⟩] at hT
                            have cS3 := ih l1 mid e b hw c1 c2 (by omega) (by omega) (by omega) hl1s
                            obtain ⟨l3, hl3⟩ : ∃ l3, l3 = symL ltA f l1 mid e b := ⟨_, rfl⟩
                            rw [← hl3] at cS3 hT
                            have hl3n : l3.length = l.length := by rw [hl3, symL_len]; exact hl1n
                            have hl3s : ∀ x ∈ l3, AtSz x := fun x hx => hl1s x (symL_mem _ _ _ _ _ (hl3 ▸ hx))
                            rw [hl1n] at cS3
                            clear hl3
                            repeat (first | refine tr_seq_k fun _ _ => ?_ | (refine tr_region ?_; simp only [go_sem, List.getElem?_toArray, reduceCtorEq, Nat.reduceEqDiff, Nat.reduceLT, ↓reduceIte, d1, d2]) | refine k_of (by assumption) ?_ | (refine tr_skip ?_; try simp only [ex_seq]))
                            refine tr_cond rfl (fun ht => ?_) (fun hf => ?_)
                            · clear d1 d2
                              repeat (first | (refine tr_region ?_; simp only [go_sem, reduceCtorEq, Nat.reduceEqDiff, Nat.reduceLT, ↓reduceIte]) | (refine call_givesW (cS3) ?_; (try dsimp only); (try simp only [go_sem, reduceCtorEq, Nat.reduceEqDiff, Nat.reduceLT, Nat.reduceLeDiff, Nat.reduceAdd, Nat.reduceMul, Nat.reduceSub, Nat.reduceBEq, ↓reduceIte])))
                              exact (hQ _ _ [] rfl rfl (by rw [hT])).1
                            · cases hf
                          · have d1 : decide ((mid : Int) < (e : Int)) = true := decide_eq_true (by omega)
                            have d2 : decide ((e : Int) < (b : Int)) = false := decide_eq_false (by omega)
                            rw [if_neg (fun h => c2 h.2)] at hT
                            repeat (first | refine tr_seq_k fun _ _ => ?_ | (refine tr_region ?_; simp only [go_sem, List.getElem?_toArray, reduceCtorEq, Nat.reduceEqDiff, Nat.reduceLT, ↓reduceIte, d1, d2]) | refine k_of (by assumption) ?_ | (refine tr_skip ?_; try simp only [ex_seq]))
                            refine tr_cond rfl (fun ht => ?_) (fun hf => ?_)
                            · cases ht
                            · clear d1 d2
                              repeat ((refine tr_skip ?_; try simp only [ex_seq, ex_block]))
                              exact (hQ _ _ [] rfl rfl (by rw [hT])).1
                        · have d1 : decide ((mid : Int) < (e : Int)) = false := decide_eq_false (by omega)
                          rw [if_neg (fun h => c1 h.1)] at hT
                          repeat (first | refine tr_seq_k fun _ _ => ?_ | (refine tr_region ?_; simp only [go_sem, List.getElem?_toArray, reduceCtorEq, Nat.reduceEqDiff, Nat.reduceLT, ↓reduceIte, d1]) | refine k_of (by assumption) ?_ | (refine tr_skip ?_; try simp only [ex_seq]))
                          refine tr_cond rfl (fun ht => ?_) (fun hf => ?_)
                          · cases ht
                          · clear d1
                            repeat ((refine tr_skip ?_; try simp only [ex_seq, ex_block]))
                            exact (hQ _ _ [] rfl rfl (by rw [hT])).1
                  · cases hf
                · have d1 : decide ((R : Int) < (m : Int)) = true := decide_eq_true (by omega)
                  have d2 : decide ((m : Int) < (e : Int)) = false := decide_eq_false (by omega)
                  rw [if_neg (fun h => c2 h.2)] at hT
                  repeat (first | refine tr_seq_k fun _ _ => ?_ | (refine tr_region ?_; simp only [go_sem, List.getElem?_toArray, reduceCtorEq, Nat.reduceEqDiff, Nat.reduceLT, ↓reduceIte, w7, d1, d2]) | refine k_of (by assumption) ?_ | (refine tr_exit ?_; try simp only [ex_seq_exit, ex_block_exit, ex_seq, ↓reduceIte]))
                  refine tr_cond rfl (fun ht => ?_) (fun hf => ?_)
                  · cases ht
                  · clear d1 d2
                    unfold symT2 at hT
                    by_cases c1 : a < R
                    · by_cases c2 : R < mid
                      · have d1 : decide ((a : Int) < (R : Int)) = true := decide_eq_true (by omega)
                        have d2 : decide ((R : Int) < (mid : Int)) = true := decide_eq_true (by omega)
                        rw [if_pos ⟨c1, c2⟩] at hT
                        have cS2 := ih l a R mid hw c1 c2 (by omega) (by omega) (by omega) hsz
                        obtain ⟨l2, hl2⟩ : ∃ l2, l2 = symL ltA f l a R mid := ⟨_, rfl⟩
                        rw [← hl2] at cS2 hT
                        have hl2n : l2.length = l.length := by rw [hl2, symL_len]
                        have hl2s : ∀ x ∈ l2, AtSz x := fun x hx => hsz x (symL_mem _ _ _ _ _ (hl2 ▸ hx))
                        clear hl2
                        repeat (first | refine tr_seq_k fun _ _ => ?_ | (refine tr_region ?_; simp only [go_sem, List.getElem?_toArray, reduceCtorEq, Nat.reduceEqDiff, Nat.reduceLT, ↓reduceIte, d1, d2]) | refine k_of (by assumption) ?_ | (refine tr_skip ?_; try simp only [ex_seq]))
                        refine tr_cond rfl (fun ht => ?_) (fun hf => ?_)
                        · clear d1 d2
                          unfold symT3 at hT
                          by_cases c1 : mid < e
                          · by_cases c2 : e < b
                            · have d1 : decide ((mid : Int) < (e : Int)) = true := decide_eq_true (by omega)
                              have d2 : decide ((e : Int) < (b : Int)) = true := decide_eq_true (by omega)
                              rw [if_pos ⟨c1, c2⟩] at hT
                              have cS3 := ih l2 mid e b hw c1 c2 (by omega) (by omega) (by omega) hl2s
                              obtain ⟨l3, hl3⟩ : ∃ l3, l3 = symL ltA f l2 mid e b := ⟨_, rfl⟩
                              rw [← hl3] at cS3 hT
                              have hl3n : l3.length = l.length := by rw [hl3, symL_len]; exact hl2n
                              have hl3s : ∀ x ∈ l3, AtSz x := fun x hx => hl2s x (symL_mem _ _ _ _ _ (hl3 ▸ hx))
                              rw [hl2n] at cS3
                              clear hl3
                              repeat (first | refine tr_seq_k fun _ _ => ?_ | (refine tr_region ?_; simp only [go_sem, List.getElem?_toArray, reduceCtorEq, Nat.reduceEqDiff, Nat.reduceLT, ↓reduceIte, d1, d2]) | (refine call_givesW (cS2) ?_; (try dsimp only); (try simp only [go_sem, reduceCtorEq, Nat.reduceEqDiff, Nat.reduceLT, Nat.reduceLeDiff, Nat.reduceAdd, Nat.reduceMul, Nat.reduceSub, Nat.reduceBEq, ↓reduceIte, d1, d2])) | refine k_of (by assumption) ?_)
                              refine tr_cond rfl (fun ht => ?_) (fun hf => ?_)
                              · clear d1 d2
                                repeat (first | (refine tr_region ?_; simp only [go_sem, reduceCtorEq, Nat.reduceEqDiff, Nat.reduceLT, ↓reduceIte]) | (refine call_givesW (cS3) ?_; (try dsimp only); (try simp only [go_sem, reduceCtorEq, Nat.reduceEqDiff, Nat.reduceLT, Nat.reduceLeDiff, Nat.reduceAdd, Nat.reduceMul, Nat.reduceSub, Nat.reduceBEq, ↓reduceIte])))
                                exact (hQ _ _ [] rfl rfl (by rw [hT])).1
                              · cases hf
                            · have d1 : decide ((mid : Int) < (e : Int)) = true := decide_eq_true (by omega)
                              have d2 : decide ((e : Int) < (b : Int)) = false := decide_eq_false (by omega)
                              rw [if_neg (fun h => c2 h.2)] at hT
                              repeat (first | refine tr_seq_k fun _ _ => ?_ | (refine tr_region ?_; simp only [go_sem, List.getElem?_toArray, reduceCtorEq, Nat.reduceEqDiff, Nat.reduceLT, ↓reduceIte, d1, d2]) | (refine call_givesW (cS2) ?_; (try dsimp only); (try simp only [go_sem, reduceCtorEq, Nat.reduceEqDiff, Nat.reduceLT, Nat.reduceLeDiff, Nat.reduceAdd, Nat.reduceMul, Nat.reduceSub, Nat.reduceBEq, ↓reduceIte, d1, d2])) | refine k_of (by assumption) ?_)
                              refine tr_cond rfl (fun ht => ?_) (fun hf => ?_)
                              · cases ht
                              · clear d1 d2
                                repeat ((refine tr_skip ?_; try simp only [ex_seq, ex_block]))
                                exact (hQ _ _ [] rfl rfl (by rw [hT])).1
                          · have d1 : decide ((mid : Int) < (e : Int)) = false := decide_eq_false (by omega)
                            rw [if_neg (fun h => c1 h.1)] at hT
                            repeat (first | refine tr_seq_k fun _ _ => ?_ | (refine tr_region ?_; simp only [go_sem, List.getElem?_toArray, reduceCtorEq, Nat.reduceEqDiff, Nat.reduceLT, ↓reduceIte, d1]) | (refine call_givesW (cS2) ?_; (try dsimp only); (try simp only [go_sem, reduceCtorEq, Nat.reduceEqDiff, Nat.reduceLT, Nat.reduceLeDiff, Nat.reduceAdd, Nat.reduceMul, Nat.reduceSub, Nat.reduceBEq, ↓reduceIte, d1])) | refine k_of (by assumption) ?_)
                            refine tr_cond rfl (fun ht => ?_) (fun hf => ?_)
                            · cases ht
                            · clear d1
                              repeat ((refine tr_skip ?_; try simp only [ex_seq, ex_block]))
                              exact (hQ _ _ [] rfl rfl (by rw [hT])).1
                        · cases hf
                      · have d1 : decide ((a : Int) < (R : Int)) = true := decide_eq_true (by omega)
                        have d2 : decide ((R : Int) < (mid : Int)) = false := decide_eq_false (by omega)
                        rw [if_neg (fun h => c2 h.2)] at hT
                        repeat (first | refine tr_seq_k fun _ _ => ?_ | (refine tr_region ?_; simp only [go_sem, List.getElem?_toArray, reduceCtorEq, Nat.reduceEqDiff, Nat.reduceLT, ↓reduceIte, d1, d2]) | refine k_of (by assumption) ?_ | (refine tr_skip ?_; try simp only [ex_seq]))
                        refine tr_cond rfl (fun ht => ?_) (fun hf => ?_)
                        · cases ht
                        · clear d1 d2
                          unfold symT3 at hT
                          by_cases c1 : mid < e
                          · by_cases c2 : e < b
                            · have d1 : decide ((mid : Int) < (e : Int)) = true := decide_eq_true (by omega)
                              have d2 : decide ((e : Int) < (b : Int)) = true := decide_eq_true (by omega)
                              rw [if_pos ⟨c1, c2⟩] at hT
                              have cS3 := ih l mid e b hw c1 c2 (by omega) (by omega) (by omega) hsz
                              obtain ⟨l3, hl3⟩ : ∃ l3, l3 = symL ltA f l mid e b := ⟨_, rfl⟩
                              rw [← hl3] at cS3 hT
                              have hl3n : l3.length = l.length := by rw [hl3, symL_len]
                              have hl3s : ∀ x ∈ l3, AtSz x := fun x hx => hsz x (symL_mem _ _ _ _ _ (hl3 ▸ hx))
                              clear hl3
                              repeat (first | refine tr_seq_k fun _ _ => ?_ | (refine tr_region ?_; simp only [go_sem, List.getElem?_toArray, reduceCtorEq, Nat.reduceEqDiff, Nat.reduceLT, ↓reduceIte, d1, d2]) | refine k_of (by assumption) ?_ | (refine tr_skip ?_; try simp only [ex_seq]))
                              refine tr_cond rfl (fun ht => ?_) (fun hf => ?_)
                              · clear d1 d2
                                repeat (first | (refine tr_region ?_; simp only [go_sem, reduceCtorEq, Nat.reduceEqDiff, Nat.reduceLT, ↓reduceIte]) | (refine call_givesW (cS3) ?_; (try dsimp only); (try simp only [go_sem, reduceCtorEq, Nat.reduceEqDiff, Nat.reduceLT, Nat.reduceLeDiff, Nat.reduceAdd, Nat.reduceMul, Nat.reduceSub, Nat.reduceBEq, ↓reduceIte])))
                                exact (hQ _ _ [] rfl rfl (by rw [hT])).1
                              · cases hf
                            · have d1 : decide ((mid : Int) < (e : Int)) = true := decide_eq_true (by omega)
                              have d2 : decide ((e : Int) < (b : Int)) = false := decide_eq_false (by omega)
                              rw [if_neg (fun h => c2 h.2)] at hT
                              repeat (first | refine tr_seq_k fun _ _ => ?_ | (refine tr_region ?_; simp only [go_sem, List.getElem?_toArray, reduceCtorEq, Nat.reduceEqDiff, Nat.reduceLT, ↓reduceIte, d1, d2]) | refine k_of (by assumption) ?_ | (refine tr_skip ?_; try simp only [ex_seq]))
                              refine tr_cond rfl (fun ht => ?_) (fun hf => ?_)
                              · cases ht
                              · clear d1 d2
                                repeat ((refine tr_skip ?_; try simp only [ex_seq, ex_block]))
                                exact (hQ _ _ [] rfl rfl (by rw [hT])).1
                          · have d1 : decide ((mid : Int) < (e : Int)) = false := decide_eq_false (by omega)
                            rw [if_neg (fun h => c1 h.1)] at hT
                            repeat (first | refine tr_seq_k fun _ _ => ?_ | (refine tr_region ?_; simp only [go_sem, List.getElem?_toArray, reduceCtorEq, Nat.reduceEqDiff, Nat.reduceLT, ↓reduceIte, d1]) | refine k_of (by assumption) ?_ | (refine tr_skip ?_; try simp only [ex_seq]))
                            refine tr_cond rfl (fun ht => ?_) (fun hf => ?_)
                            · cases ht
                            · clear d1
                              repeat ((refine tr_skip ?_; try simp only [ex_seq, ex_block]))
                              exact (hQ _ _ [] rfl rfl (by rw [hT])).1
                    · have d1 : decide ((a : Int) < (R : Int)) = false := decide_eq_false (by omega)
                      rw [if_neg (fun h => c1 h.1)] at hT
                      repeat (first | refine tr_seq_k fun _ _ => ?_ | (refine tr_region ?_; simp only [go_sem, List.getElem?_toArray, reduceCtorEq, Nat.reduceEqDiff, Nat.reduceLT, ↓reduceIte, d1]) | refine k_of (by assumption) ?_ | (refine tr_skip ?_; try simp only [ex_seq]))
                      refine tr_cond rfl (fun ht => ?_) (fun hf => ?_)
                      · cases ht
                      · clear d1
                        unfold symT3 at hT
                        by_cases c1 : mid < e
                        · by_cases c2 : e < b
                          · have d1 : decide ((mid : Int) < (e : Int)) = true := decide_eq_true (by omega)
                            have d2 : decide ((e : Int) < (b : Int)) = true := decide_eq_true (by omega)
                            rw [if_pos ⟨c1, c2⟩] at hT
                            have cS3 := ih l mid e b hw c1 c2 (by omega) (by omega) (by omega) hsz
                            obtain ⟨l3, hl3⟩ : ∃ l3, l3 = symL ltA f l mid e b := ⟨_, rfl⟩
                            rw [← hl3] at cS3 hT
                            have hl3n : l3.length = l.length := by rw [hl3, symL_len]
                            have hl3s : ∀ x ∈ l3, AtSz x := fun x hx => hsz x (symL_mem _ _ _ _ _ (hl3 ▸ hx))
                            clear hl3
                            repeat (first | refine tr_seq_k fun _ _ => ?_ | (refine tr_region ?_; simp only [go_sem, List.getElem?_toArray, reduceCtorEq, Nat.reduceEqDiff, Nat.reduceLT, ↓reduceIte, d1, d2]) | refine k_of (by assumption) ?_ | (refine tr_skip ?_; try simp only [ex_seq]))
                            refine tr_cond rfl (fun ht => ?_) (fun hf => ?_)
                            · clear d1 d2
                              repeat (first | (refine tr_region ?_; simp only [go_sem, reduceCtorEq, Nat.reduceEqDiff, Nat.reduceLT, ↓reduceIte]) | (refine call_givesW (cS3) ?_; (try dsimp only); (try simp only [go_sem, reduceCtorEq, Nat.reduceEqDiff, Nat.reduceLT, Nat.reduceLeDiff, Nat.reduceAdd, Nat.reduceMul, Nat.reduceSub, Nat.reduceBEq, ↓reduceIte])))
                              exact (hQ _ _ [] rfl rfl (by rw [hT])).1
                            · cases hf
                          · have d1 : decide ((mid : Int) < (e : Int)) = true := decide_eq_true (by omega)
                            have d2 : decide ((e : Int) < (b : Int)) = false := decide_eq_false (by omega)
                            rw [if_neg (fun h => c2 h.2)] at hT
                            repeat (first | refine tr_seq_k fun _ _ => ?_ | (refine tr_region ?_; simp only [go_sem, List.getElem?_toArray, reduceCtorEq, Nat.reduceEqDiff, Nat.reduceLT, ↓reduceIte, d1, d2]) | refine k_of (by assumption) ?_ | (refine tr_skip ?_; try simp only [ex_seq]))
                            refine tr_cond rfl (fun ht => ?_) (fun hf => ?_)
                            · cases ht
                            · clear d1 d2
                              repeat ((refine tr_skip ?_; try simp only [ex_seq, ex_block]))
                              exact (hQ _ _ [] rfl rfl (by rw [hT])).1
                        · have d1 : decide ((mid : Int) < (e : Int)) = false := decide_eq_false (by omega)
                          rw [if_neg (fun h => c1 h.1)] at hT
                          repeat (first | refine tr_seq_k fun _ _ => ?_ | (refine tr_region ?_; simp only [go_sem, List.getElem?_toArray, reduceCtorEq, Nat.reduceEqDiff, Nat.reduceLT, ↓reduceIte, d1]) | refine k_of (by assumption) ?_ | (refine tr_skip ?_; try simp only [ex_seq]))
                          refine tr_cond rfl (fun ht => ?_) (fun hf => ?_)
                          · cases ht
                          · clear d1
                            repeat ((refine tr_skip ?_; try simp only [ex_seq, ex_block]))
                            exact (hQ _ _ [] rfl rfl (by rw [hT])).1
              · have d1 : decide ((R : Int) < (m : Int)) = false := decide_eq_false (by omega)
                rw [if_neg (fun h => c1 h.1)] at hT
                repeat (first | refine tr_seq_k fun _ _ => ?_ | (refine tr_region ?_; simp only [go_sem, List.getElem?_toArray, reduceCtorEq, Nat.reduceEqDiff, Nat.reduceLT, ↓reduceIte, w7, d1]) | refine k_of (by assumption) ?_ | (refine tr_exit ?_; try simp only [ex_seq_exit, ex_block_exit, ex_seq, ↓reduceIte]))
                refine tr_cond rfl (fun ht => ?_) (fun hf => ?_)
                · cases ht
                · clear d1
                  unfold symT2 at hT
                  by_cases c1 : a < R
                  · by_cases c2 : R < mid
                    · have d1 : decide ((a : Int) < (R : Int)) = true := decide_eq_true (by omega)
                      have d2 : decide ((R : Int) < (mid : Int)) = true := decide_eq_true (by omega)
                      rw [if_pos ⟨c1, c2⟩] at hT
                      have cS2 := ih l a R mid hw c1 c2 (by omega) (by omega) (by omega) hsz
                      obtain ⟨l2, hl2⟩ : ∃ l2, l2 = symL ltA f l a R mid := ⟨_, rfl⟩
                      rw [← hl2] at cS2 hT
                      have hl2n : l2.length = l.length := by rw [hl2, symL_len]
                      have hl2s : ∀ x ∈ l2, AtSz x := fun x hx => hsz x (symL_mem _ _ _ _ _ (hl2 ▸ hx))
                      clear hl2
                      repeat (first | refine tr_seq_k fun _ _ => ?_ | (refine tr_region ?_; simp only [go_sem, List.getElem?_toArray, reduceCtorEq, Nat.reduceEqDiff, Nat.reduceLT, ↓reduceIte, d1, d2]) | refine k_of (by assumption) ?_ | (refine tr_skip ?_; try simp only [ex_seq]))
                      refine tr_cond rfl (fun ht => ?_) (fun hf => ?_)
                      · clear d1 d2
                        unfold symT3 at hT
                        by_cases c1 : mid < e
                        · by_cases c2 : e < b
                          · have d1 : decide ((mid : Int) < (e : Int)) = true := decide_eq_true (by omega)
                            have d2 : decide ((e : Int) < (b : Int)) = true := decide_eq_true (by omega)
                            rw [if_pos ⟨c1, c2⟩] at hT
                            have cS3 := ih l2 mid e b hw c1 c2 (by omega) (by omega) (by omega) hl2s
                            obtain ⟨l3, hl3⟩ : ∃ l3, l3 = symL ltA f l2 mid e b := ⟨_, rfl⟩
                            rw [← hl3] at cS3 hT
                            have hl3n : l3.length = l.length := by rw [hl3, symL_len]; exact hl2n
                            have hl3s : ∀ x ∈ l3, AtSz x := fun x hx => hl2s x (symL_mem _ _ _ _ _ (hl3 ▸ hx))
                            rw [hl2n] at cS3
                            clear hl3
                            repeat (first | refine tr_seq_k fun _ _ => ?_ | (refine tr_region ?_; simp only [go_sem, List.getElem?_toArray, reduceCtorEq, Nat.reduceEqDiff, Nat.reduceLT, ↓reduceIte, d1, d2]) | (refine call_givesW (cS2) ?_; (try dsimp only); (try simp only [go_sem, reduceCtorEq, Nat.reduceEqDiff, Nat.reduceLT, Nat.reduceLeDiff, Nat.reduceAdd, Nat.reduceMul, Nat.reduceSub, Nat.reduceBEq, ↓reduceIte, d1, d2])) | refine k_of (by assumption) ?_)
                            refine tr_cond rfl (fun ht => ?_) (fun hf => ?_)
                            · clear d1 d2
                              repeat (first | (refine tr_region ?_; simp only [go_sem, reduceCtorEq, Nat.reduceEqDiff, Nat.reduceLT, ↓reduceIte]) | (refine call_givesW (cS3) ?_; (try dsimp only); (try simp only [go_sem, reduceCtorEq, Nat.reduceEqDiff, Nat.reduceLT, Nat.reduceLeDiff, Nat.reduceAdd, Nat.reduceMul, Nat.reduceSub, Nat.reduceBEq, ↓reduceIte])))
                              exact (hQ _ _ [] rfl rfl (by rw [hT])).1
                            · cases hf
                          · have d1 : decide ((mid : Int) < (e : Int)) = true := decide_eq_true (by omega)
                            have d2 : decide ((e : Int) < (b : Int)) = false := decide_eq_false (by omega)
                            rw [if_neg (fun h => c2 h.2)] at hT
                            repeat (first | refine tr_seq_k fun _ _ => ?_ | (refine tr_region ?_; simp only [go_sem, List.getElem?_toArray, reduceCtorEq, Nat.reduceEqDiff, Nat.reduceLT, ↓reduceIte, d1, d2]) | (refine call_givesW (cS2) ?_; (try dsimp only); (try simp only [go_sem, reduceCtorEq, Nat.reduceEqDiff, Nat.reduceLT, Nat.reduceLeDiff, Nat.reduceAdd, Nat.reduceMul, Nat.reduceSub, Nat.reduceBEq, ↓reduceIte, d1, d2])) | refine k_of (by assumption) ?_)
                            refine tr_cond rfl (fun ht => ?_) (fun hf => ?_)
                            · cases ht
                            · clear d1 d2
                              repeat ((refine tr_skip ?_; try simp only [ex_seq, ex_block]))
                              exact (hQ _ _ [] rfl rfl (by rw [hT])).1
                        · have d1 : decide ((mid : Int) < (e : Int)) = false := decide_eq_false (by omega)
                          rw [if_neg (fun h => c1 h.1)] at hT
                          repeat (first | refine tr_seq_k fun _ _ => ?_ | (refine tr_region ?_; simp only [go_sem, List.getElem?_toArray, reduceCtorEq, Nat.reduceEqDiff, Nat.reduceLT, ↓reduceIte, d1]) | (refine call_givesW (cS2) ?_; (try dsimp only); (try simp only [go_sem, reduceCtorEq, Nat.reduceEqDiff, Nat.reduceLT, Nat.reduceLeDiff, Nat.reduceAdd, Nat.reduceMul, Nat.reduceSub, Nat.reduceBEq, ↓reduceIte, d1])) | refine k_of (by assumption) ?_)
                          refine tr_cond rfl (fun ht => ?_) (fun hf => ?_)
                          · cases ht
                          · clear d1
                            repeat ((refine tr_skip ?_; try simp only [ex_seq, ex_block]))
                            exact (hQ _ _ [] rfl rfl (by rw [hT])).1
                      · cases hf
                    · have d1 : decide ((a : Int) < (R : Int)) = true := decide_eq_true (by omega)
                      have d2 : decide ((R : Int) < (mid : Int)) = false := decide_eq_false (by omega)
                      rw [if_neg (fun h => c2 h.2)] at hT
                      repeat (first | refine tr_seq_k fun _ _ => ?_ | (refine tr_region ?_; simp only [go_sem, List.getElem?_toArray, reduceCtorEq, Nat.reduceEqDiff, Nat.reduceLT, ↓reduceIte, d1, d2]) | refine k_of (by assumption) ?_ | (refine tr_skip ?_; try simp only [ex_seq]))
                      refine tr_cond rfl (fun ht => ?_) (fun hf => ?_)
                      · cases ht
                      · clear d1 d2
                        unfold symT3 at hT
                        by_cases c1 : mid < e
                        · by_cases c2 : e < b
                          · have d1 : decide ((mid : Int) < (e : Int)) = true := decide_eq_true (by omega)
                            have d2 : decide ((e : Int) < (b : Int)) = true := decide_eq_true (by omega)
                            rw [if_pos ⟨c1, c2⟩] at hT
                            have cS3 := ih l mid e b hw c1 c2 (by omega) (by omega) (by omega) hsz
                            obtain ⟨l3, hl3⟩ : ∃ l3, l3 = symL ltA f l mid e b := ⟨_, rfl⟩
                            rw [← hl3] at cS3 hT
                            have hl3n : l3.length = l.length := by rw [hl3, symL_len]
                            have hl3s : ∀ x ∈ l3, AtSz x := fun x hx => hsz x (symL_mem _ _ _ _ _ (hl3 ▸ hx))
                            clear hl3
                            repeat (first | refine tr_seq_k fun _ _ => ?_ | (refine tr_region ?_; simp only [go_sem, List.getElem?_toArray, reduceCtorEq, Nat.reduceEqDiff, Nat.reduceLT, ↓reduceIte, d1, d2]) | refine k_of (by assumption) ?_ | (refine tr_skip ?_; try simp only [ex_seq]))
                            refine tr_cond rfl (fun ht => ?_) (fun hf => ?_)
                            · clear d1 d2
                              repeat (first | (refine tr_region ?_; simp only [go_sem, reduceCtorEq, Nat.reduceEqDiff, Nat.reduceLT, ↓reduceIte]) | (refine call_givesW (cS3) ?_; (try dsimp only); (try simp only [go_sem, reduceCtorEq, Nat.reduceEqDiff, Nat.reduceLT, Nat.reduceLeDiff, Nat.reduceAdd, Nat.reduceMul, Nat.reduceSub, Nat.reduceBEq, ↓reduceIte])))
                              exact (hQ _ _ [] rfl rfl (by rw [hT])).1
                            · cases hf
                          · have d1 : decide ((mid : Int) < (e : Int)) = true := decide_eq_true (by omega)
                            have d2 : decide ((e : Int) < (b : Int)) = false := decide_eq_false (by omega)
                            rw [if_neg (fun h => c2 h.2)] at hT
                            repeat (first | refine tr_seq_k fun _ _ => ?_ | (refine tr_region ?_; simp only [go_sem, List.getElem?_toArray, reduceCtorEq, Nat.reduceEqDiff, Nat.reduceLT, ↓reduceIte, d1, d2]) | refine k_of (by assumption) ?_ | (refine tr_skip ?_; try simp only [ex_seq]))
                            refine tr_cond rfl (fun ht => ?_) (fun hf => ?_)
                            · cases ht
                            · clear d1 d2
                              repeat ((refine tr_skip ?_; try simp only [ex_seq, ex_block]))
                              exact (hQ _ _ [] rfl rfl (by rw [hT])).1
                        · have d1 : decide ((mid : Int) < (e : Int)) = false := decide_eq_false (by omega)
                          rw [if_neg (fun h => c1 h.1)] at hT
                          repeat (first | refine tr_seq_k fun _ _ => ?_ | (refine tr_region ?_; simp only [go_sem, List.getElem?_toArray, reduceCtorEq, Nat.reduceEqDiff, Nat.reduceLT, ↓reduceIte, d1]) | refine k_of (by assumption) ?_ | (refine tr_skip ?_; try simp only [ex_seq]))
                          refine tr_cond rfl (fun ht => ?_) (fun hf => ?_)
                          · cases ht
                          · clear d1
                            repeat ((refine tr_skip ?_; try simp only [ex_seq, ex_block]))
                            exact (hQ _ _ [] rfl rfl (by rw [hT])).1
                  · have d1 : decide ((a : Int) < (R : Int)) = false := decide_eq_false (by omega)
                    rw [if_neg (fun h => c1 h.1)] at hT
                    repeat (first | refine tr_seq_k fun _ _ => ?_ | (refine tr_region ?_; simp only [go_sem, List.getElem?_toArray, reduceCtorEq, Nat.reduceEqDiff, Nat.reduceLT, ↓reduceIte, d1]) | refine k_of (by assumption) ?_ | (refine tr_skip ?_; try simp only [ex_seq]))
                    refine tr_cond rfl (fun ht => ?_) (fun hf => ?_)
                    · cases ht
                    · clear d1
                      unfold symT3 at hT
                      by_cases c1 : mid < e
                      · by_cases c2 : e < b
                        · have d1 : decide ((mid : Int) < (e : Int)) = true := decide_eq_true (by omega)
                          have d2 : decide ((e : Int) < (b : Int)) = true := decide_eq_true (by omega)
                          rw [if_pos ⟨c1, c2⟩] at hT
                          have cS3 := ih l mid e b hw c1 c2 (by omega) (by omega) (by omega) hsz
                          obtain ⟨l3, hl3⟩ : ∃ l3, l3 = symL ltA f l mid e b := ⟨_, rfl⟩
                          rw [← hl3] at cS3 hT
                          have hl3n : l3.length = l.length := by rw [hl3, symL_len]
                          have hl3s : ∀ x ∈ l3, AtSz x := fun x hx => hsz x (symL_mem _ _ _ _ _ (hl3 ▸ hx))
                          clear hl3
                          repeat (first | refine tr_seq_k fun _ _ => ?_ | (refine tr_region ?_; simp only [go_sem, List.getElem?_toArray, reduceCtorEq, Nat.reduceEqDiff, Nat.reduceLT, ↓reduceIte, d1, d2]) | refine k_of (by assumption) ?_ | (refine tr_skip ?_; try simp only [ex_seq]))
                          refine tr_cond rfl (fun ht => ?_) (fun hf => ?_)
                          · clear d1 d2
                            repeat (first | (refine tr_region ?_; simp only [go_sem, reduceCtorEq, Nat.reduceEqDiff, Nat.reduceLT, ↓reduceIte]) | (refine call_givesW (cS3) ?_; (try dsimp only); (try simp only [go_sem, reduceCtorEq, Nat.reduceEqDiff, Nat.reduceLT, Nat.reduceLeDiff, Nat.reduceAdd, Nat.reduceMul, Nat.reduceSub, Nat.reduceBEq, ↓reduceIte])))
                            exact (hQ _ _ [] rfl rfl (by rw [hT])).1
                          · cases hf
                        · have d1 : decide ((mid : Int) < (e : Int)) = true := decide_eq_true (by omega)
                          have d2 : decide ((e : Int) < (b : Int)) = false := decide_eq_false (by omega)
                          rw [if_neg (fun h => c2 h.2)] at hT
                          repeat (first | refine tr_seq_k fun _ _ => ?_ | (refine tr_region ?_; simp only [go_sem, List.getElem?_toArray, reduceCtorEq, Nat.reduceEqDiff, Nat.reduceLT, ↓reduceIte, d1, d2]) | refine k_of (by assumption) ?_ | (refine tr_skip ?_; try simp only [ex_seq]))
                          refine tr_cond rfl (fun ht => ?_) (fun hf => ?_)
                          · cases ht
                          · clear d1 d2
                            repeat ((refine tr_skip ?_; try simp only [ex_seq, ex_block]))
                            exact (hQ _ _ [] rfl rfl (by rw [hT])).1
                      · have d1 : decide ((mid : Int) < (e : Int)) = false := decide_eq_false (by omega)
                        rw [if_neg (fun h => c1 h.1)] at hT
                        repeat (first | refine tr_seq_k fun _ _ => ?_ | (refine tr_region ?_; simp only [go_sem, List.getElem?_toArray, reduceCtorEq, Nat.reduceEqDiff, Nat.reduceLT, ↓reduceIte, d1]) | refine k_of (by assumption) ?_ | (refine tr_skip ?_; try simp only [ex_seq]))
                        refine tr_cond rfl (fun ht => ?_) (fun hf => ?_)
                        · cases ht
                        · clear d1
                          repeat ((refine tr_skip ?_; try simp only [ex_seq, ex_block]))
                          exact (hQ _ _ [] rfl rfl (by rw [hT])).1
end Go.Proofs.YtinbfakpjnnagaaDoor
namespace Go.Proofs.YtinbfakpjnnagaaDoor
open Go.RowKit Go.Vs Go.Vs.Ab Go.Vs.Sm
set_option maxRecDepth 100000
set_option maxHeartbeats 4000000
theorem sym_gives : ∀ (f : Nat) (l : List Atm) (a m b : Nat) (hw : List Hw), a < m → m < b → b ≤ l.length → l.length ≤ 1000000 → b - a ≤ f → (∀ x ∈ l, AtSz x) → GivesW Tryd.prog 53 [.lsl 0 0 l.length 11, iA a, iA m, iA b, cmpF] ⟨[⟨false, blC atC l⟩], hw⟩ (.tup []) ⟨[⟨false, blC atC (symL ltA f l a m b)⟩], hw⟩
  | 0, l, a, m, b, hw, h1, h2, h3, h4, h5, h6 => by omega
  | f + 1, l, a, m, b, hw, h1, h2, h3, h4, h5, h6 => by
    by_cases c1 : m - a = 1
    · have e : symL ltA (f + 1) l a m b = upL l a (bs (fun h => ltAt ltA l h a) (b - m + 1) m b - 1 - a) := by unfold symL; rw [if_pos c1]
      rw [e]
      exact symA l a m b hw h1 h2 h3 h4 h6 c1
    · by_cases c2 : b - m = 1
      · have e : symL ltA (f + 1) l a m b = downL l m (m - bs (fun h => !ltAt ltA l m h) (m - a + 1) a m) := by unfold symL; rw [if_neg c1, if_pos c2]
        rw [e]
        exact symB l a m b hw h1 h2 h3 h4 h6 c1 c2
      · exact symC f (sym_gives f) l a m b hw h1 h2 h3 h4 h5 h6 c1 c2
theorem stab_gives (l : List Atm) (hw : List Hw) (hl : l.length ≤ 1000000) (hsz : ∀ x ∈ l, AtSz x) : GivesW Tryd.prog 41 [.lsl 0 0 l.length 11, iA l.length, cmpF] ⟨[⟨false, blC atC l⟩], hw⟩ (.tup []) ⟨[⟨false, blC atC (stableL ltA l)⟩], hw⟩ := by
  obtain ⟨T, hT⟩ : ∃ T, T = stableL ltA l := ⟨_, rfl⟩
  rw [← hT]
  unfold stableL at hT
  obtain ⟨T1, hT1⟩ : ∃ T1, T1 = ph1 ltA 20 (l.length + 1) l 0 := ⟨_, rfl⟩
  rw [← hT1] at hT
  refine givesW_of' Tryd.func41 rfl (by kernel_rfl) Tryd.ntmps41 rfl rfl fun Q hQ => ?_
  repeat (first | refine tr_seq_k fun _ _ => ?_ | (refine tr_region ?_; simp only [go_sem, reduceCtorEq, Nat.reduceEqDiff, Nat.reduceLT, Nat.reduceAdd, ↓reduceIte]) | refine k_of (by assumption) ?_ | refine tr_block ?_)
  refine tr_loop_k (σ := Nat × List Atm × Nat) (fun q => [(0, .lsl 0 0 l.length 11), (1, iA l.length), (2, cmpF), (6, iA 20), (7, iA q.2.2), (8, iA ((q.2.2 + 20 : Nat) : Int))]) (fun q => ⟨[⟨false, blC atC q.2.1⟩], hw⟩)
    (fun q => T1 = ph1 ltA 20 (q.1 + 1) q.2.1 q.2.2 ∧ q.2.1.length = l.length ∧ q.2.2 ≤ l.length ∧ l.length - q.2.2 ≤ q.1 ∧ ∀ x ∈ q.2.1, AtSz x) (fun q => l.length - q.2.2) (l.length, l, 0) ⟨hT1, rfl, Nat.zero_le _, Nat.le_refl _, hsz⟩ ⟨rfl, rfl, rfl, rfl, rfl, rfl, trivial⟩ rfl ?_
  rintro ⟨f, L, a⟩ ⟨hTT, hLl, hal, hf1, hLs⟩ K hK
  dsimp only at hTT hLl hal hf1 hLs ⊢
  have hu : ph1 ltA 20 (f + 1) L a = if a + 20 ≤ L.length then ph1 ltA 20 f (isL ltA L a 20) (a + 20) else isL ltA L a (L.length - a) := rfl
  rw [hu, hLl] at hTT
  by_cases c1 : a + 20 ≤ l.length
  · rw [if_pos c1] at hTT
    obtain ⟨f, rfl⟩ : ∃ g, f = g + 1 := ⟨f - 1, by omega⟩
    have q1 : decide (((a + 20 : Nat) : Int) ≤ ((l.length : Nat) : Int)) = true := decide_eq_true (by omega)
    have cI := ins_gives L a (a + 20) hw (by omega) (by omega) (by omega) hLs
    rw [hLl, show a + 20 - a = 20 by omega] at cI
    have ws : IntKind.i64.wrap (((a + 20 : Nat) : Int) + 20) = ((a + 20 + 20 : Nat) : Int) := by rw [wrap_in (by omega)]; omega
    have hn := isL_len (lt := ltA) L a 20
    have hm : ∀ x ∈ isL ltA L a 20, AtSz x := fun x hx => hLs x (isL_mem 20 hx)
    generalize isL ltA L a 20 = L2 at *
    repeat (first | refine tr_seq_k fun _ _ => ?_ | (refine tr_region ?_; simp only [go_sem, reduceCtorEq, Nat.reduceEqDiff, Nat.reduceLT, ↓reduceIte, q1]) | refine k_of (by assumption) ?_)
    refine tr_cond rfl (fun ht => ?_) (fun hf => ?_)
    · repeat (first | refine tr_seq_k fun _ _ => ?_ | (refine tr_region ?_; simp only [go_sem, reduceCtorEq, Nat.reduceEqDiff, Nat.reduceLT, ↓reduceIte, ws]) | (refine call_givesW (cI) ?_; (try dsimp only); (try simp only [go_sem, reduceCtorEq, Nat.reduceEqDiff, Nat.reduceLT, Nat.reduceLeDiff, Nat.reduceAdd, Nat.reduceMul, Nat.reduceSub, Nat.reduceBEq, ↓reduceIte, ws])) | refine k_of (by assumption) ?_ | refine tr_block ?_ | (refine tr_skip ?_; try simp only [ex_seq]))
      exact hK (f, L2, a + 20) _ _ ⟨hTT, by dsimp only; omega, c1, by dsimp only; omega, hm⟩ ⟨⟨rfl, rfl, rfl, rfl, rfl, rfl, trivial⟩, Keep.refl _, rfl, by simp only [lowB, lows_blC]; rfl, Nat.le_refl _, Nat.le_refl _⟩ (by dsimp only; omega)
    · cases hf
  · rw [if_neg c1] at hTT
    have q1 : decide (((a + 20 : Nat) : Int) ≤ ((l.length : Nat) : Int)) = false := decide_eq_false (by omega)
    have cI := ins_gives L a l.length hw hal (by omega) (by omega) hLs
    rw [hLl, ← hTT] at cI
    have hn1 : T1.length = l.length := by rw [hTT, isL_len, hLl]
    have hm1 : ∀ x ∈ T1, AtSz x := fun x hx => hLs x (by rw [hTT] at hx; exact isL_mem _ hx)
    clear hTT hu
    repeat (first | refine tr_seq_k fun _ _ => ?_ | (refine tr_region ?_; simp only [go_sem, reduceCtorEq, Nat.reduceEqDiff, Nat.reduceLT, ↓reduceIte, q1]) | refine k_of (by assumption) ?_)
    refine tr_cond rfl (fun ht => ?_) (fun hf => ?_)
    · cases ht
    · repeat (first | refine tr_seq_k fun _ _ => ?_ | (refine tr_region ?_; simp only [go_sem, reduceCtorEq, Nat.reduceEqDiff, Nat.reduceLT, ↓reduceIte]) | (refine call_givesW (cI) ?_; (try dsimp only); (try simp only [go_sem, reduceCtorEq, Nat.reduceEqDiff, Nat.reduceLT, Nat.reduceLeDiff, Nat.reduceAdd, Nat.reduceMul, Nat.reduceSub, Nat.reduceBEq, ↓reduceIte])) | refine k_of (by assumption) ?_ | refine tr_block ?_ | (refine tr_exit ?_; try simp only [ex_seq_exit, ex_block_exit, ex_seq, ↓reduceIte]))
      refine tr_loop_k (σ := Nat × List Atm × Nat) (fun q => [(0, .lsl 0 0 l.length 11), (1, iA l.length), (2, cmpF), (6, iA q.2.2)]) (fun q => ⟨[⟨false, blC atC q.2.1⟩], hw⟩)
        (fun q => T = phs ltA q.1 q.2.1 q.2.2 ∧ q.2.1.length = l.length ∧ 0 < q.2.2 ∧ l.length ≤ q.2.2 + q.1 ∧ ∀ x ∈ q.2.1, AtSz x) (fun q => l.length - q.2.2) (l.length, T1, 20) ⟨hT, hn1, by dsimp only; omega, by dsimp only; omega, hm1⟩ ⟨rfl, rfl, rfl, rfl, trivial⟩ rfl ?_
      rintro ⟨f, L, B⟩ ⟨hTT, hLl, hB, hf1, hLs⟩ K hK
      dsimp only at hTT hLl hB hf1 hLs ⊢
      by_cases c2 : B < l.length
      · obtain ⟨f, rfl⟩ : ∃ g, f = g + 1 := ⟨f - 1, by omega⟩
        have hu : phs ltA (f + 1) L B = if B < L.length then phs ltA f (ps ltA L.length B (L.length + 1) L 0) (2 * B) else L := rfl
        rw [hu, hLl, if_pos c2] at hTT
        obtain ⟨T2, hT2⟩ : ∃ T2, T2 = ps ltA l.length B (l.length + 1) L 0 := ⟨_, rfl⟩
        rw [← hT2] at hTT
        have q2 : decide ((B : Int) < ((l.length : Nat) : Int)) = true := decide_eq_true (by omega)
        have w2 : IntKind.i64.wrap (2 * (B : Int)) = ((2 * B : Nat) : Int) := by rw [wrap_in (by omega)]; omega
        have w3 : IntKind.i64.wrap ((B : Int) * 2) = ((2 * B : Nat) : Int) := by rw [wrap_in (by omega)]; omega
        have hend : T2.length = l.length → (∀ x ∈ T2, AtSz x) → ∀ fr' m', Back ⟨[⟨false, blC atC T2⟩], hw⟩ [(0, .lsl 0 0 l.length 11), (1, iA l.length), (2, cmpF), (6, iA ((2 * B : Nat) : Int))] ⟨[⟨false, blC atC T2⟩], hw⟩ fr' m' → K fr' m' := fun e1 e2 fr' m' hBk => hK (f, T2, 2 * B) fr' m' ⟨hTT, e1, by dsimp only; omega, by dsimp only; omega, e2⟩ ⟨hBk.sub, hBk.keep, hBk.lowf, by simp only [lowB, lows_blC]; rfl, Nat.le_refl _, Nat.le_refl _⟩ (by dsimp only; omega)
        repeat (first | refine tr_seq_k fun _ _ => ?_ | (refine tr_region ?_; simp only [go_sem, reduceCtorEq, Nat.reduceEqDiff, Nat.reduceLT, ↓reduceIte, q2]) | refine k_of (by assumption) ?_)
        refine tr_cond rfl (fun ht => ?_) (fun hf => ?_)
        · repeat (first | refine tr_seq_k fun _ _ => ?_ | (refine tr_region ?_; simp only [go_sem, reduceCtorEq, Nat.reduceEqDiff, Nat.reduceLT, ↓reduceIte, w2]) | refine k_of (by assumption) ?_ | refine tr_block ?_ | (refine tr_skip ?_; try simp only [ex_seq]))
          refine tr_loop_k (σ := Nat × List Atm × Nat) (fun q => [(0, .lsl 0 0 l.length 11), (1, iA l.length), (2, cmpF), (6, iA B), (7, iA q.2.2), (8, iA ((q.2.2 + 2 * B : Nat) : Int))]) (fun q => ⟨[⟨false, blC atC q.2.1⟩], hw⟩)
            (fun q => T2 = ps ltA l.length B (q.1 + 1) q.2.1 q.2.2 ∧ q.2.1.length = l.length ∧ q.2.2 ≤ l.length ∧ l.length - q.2.2 ≤ q.1 ∧ ∀ x ∈ q.2.1, AtSz x) (fun q => l.length - q.2.2) (l.length, L, 0) ⟨hT2, hLl, Nat.zero_le _, Nat.le_refl _, hLs⟩ ⟨rfl, rfl, rfl, rfl, rfl, by rw [Nat.zero_add]; rfl, trivial⟩ rfl ?_
          rintro ⟨g, M, a⟩ ⟨hTM, hMl, hal, hg1, hMs⟩ K2 hK2
          dsimp only at hTM hMl hal hg1 hMs ⊢
          have hv : ps ltA l.length B (g + 1) M a = if a + 2 * B ≤ M.length then ps ltA l.length B g (symL ltA l.length M a (a + B) (a + 2 * B)) (a + 2 * B) else if a + B < M.length then symL ltA l.length M a (a + B) M.length else M := rfl
          rw [hv, hMl] at hTM
          clear hv
          have w4 := wrap_addN (show a + B ≤ 1000000000 by omega)
          by_cases c3 : a + 2 * B ≤ l.length
          · rw [if_pos c3] at hTM
            obtain ⟨g, rfl⟩ : ∃ z, g = z + 1 := ⟨g - 1, by omega⟩
            have q3 : decide (((a + 2 * B : Nat) : Int) ≤ ((l.length : Nat) : Int)) = true := decide_eq_true (by omega)
            have cS := sym_gives l.length M a (a + B) (a + 2 * B) hw (by omega) (by omega) (by omega) (by omega) (by omega) hMs
            rw [hMl] at cS
            have hn := symL_len (lt := ltA) l.length M a (a + B) (a + 2 * B)
            have hm : ∀ x ∈ symL ltA l.length M a (a + B) (a + 2 * B), AtSz x := fun x hx => hMs x (symL_mem _ _ _ _ _ hx)
            generalize symL ltA l.length M a (a + B) (a + 2 * B) = M2 at *
            have w5 : IntKind.i64.wrap (((a + 2 * B : Nat) : Int) + ((2 * B : Nat) : Int)) = ((a + 2 * B + 2 * B : Nat) : Int) := by rw [wrap_in (by omega)]; omega
            repeat (first | refine tr_seq_k fun _ _ => ?_ | (refine tr_region ?_; simp only [go_sem, reduceCtorEq, Nat.reduceEqDiff, Nat.reduceLT, ↓reduceIte, q3]) | refine k_of (by assumption) ?_)
            refine tr_cond rfl (fun ht => ?_) (fun hf => ?_)
            · repeat (first | refine tr_seq_k fun _ _ => ?_ | (refine tr_region ?_; simp only [go_sem, reduceCtorEq, Nat.reduceEqDiff, Nat.reduceLT, ↓reduceIte, w2, w4, w5]) | (refine call_givesW (cS) ?_; (try dsimp only); (try simp only [go_sem, reduceCtorEq, Nat.reduceEqDiff, Nat.reduceLT, Nat.reduceLeDiff, Nat.reduceAdd, Nat.reduceMul, Nat.reduceSub, Nat.reduceBEq, ↓reduceIte, w2, w4, w5])) | refine k_of (by assumption) ?_ | refine tr_block ?_ | (refine tr_skip ?_; try simp only [ex_seq]))
              exact hK2 (g, M2, a + 2 * B) _ _ ⟨hTM, by dsimp only; omega, c3, by dsimp only; omega, hm⟩ ⟨⟨rfl, rfl, rfl, rfl, rfl, rfl, trivial⟩, Keep.refl _, rfl, by simp only [lowB, lows_blC]; rfl, Nat.le_refl _, Nat.le_refl _⟩ (by dsimp only; omega)
            · cases hf
          · rw [if_neg c3] at hTM
            have q3 : decide (((a + 2 * B : Nat) : Int) ≤ ((l.length : Nat) : Int)) = false := decide_eq_false (by omega)
            by_cases c4 : a + B < l.length
            · rw [if_pos c4] at hTM
              have q4 : decide (((a + B : Nat) : Int) < ((l.length : Nat) : Int)) = true := decide_eq_true (by omega)
              have cS := sym_gives l.length M a (a + B) l.length hw (by omega) (by omega) (by omega) (by omega) (by omega) hMs
              rw [hMl, ← hTM] at cS
              have hn : T2.length = l.length := by rw [hTM, symL_len, hMl]
              have hm : ∀ x ∈ T2, AtSz x := fun x hx => hMs x (by rw [hTM] at hx; exact symL_mem _ _ _ _ _ hx)
              repeat (first | refine tr_seq_k fun _ _ => ?_ | (refine tr_region ?_; simp only [go_sem, reduceCtorEq, Nat.reduceEqDiff, Nat.reduceLT, ↓reduceIte, q3]) | refine k_of (by assumption) ?_)
              refine tr_cond rfl (fun ht => ?_) (fun hf => ?_)
              · cases ht
              · repeat (first | refine tr_seq_k fun _ _ => ?_ | (refine tr_region ?_; simp only [go_sem, reduceCtorEq, Nat.reduceEqDiff, Nat.reduceLT, ↓reduceIte, w4, q4]) | refine k_of (by assumption) ?_ | (refine tr_exit ?_; try simp only [ex_seq_exit, ex_block_exit, ex_seq, ↓reduceIte]))
                refine tr_cond rfl (fun ht => ?_) (fun hf => ?_)
                · repeat (first | (refine tr_region ?_; simp only [go_sem, reduceCtorEq, Nat.reduceEqDiff, Nat.reduceLT, ↓reduceIte, w3]) | (refine call_givesW (cS) ?_; (try dsimp only); (try simp only [go_sem, reduceCtorEq, Nat.reduceEqDiff, Nat.reduceLT, Nat.reduceLeDiff, Nat.reduceAdd, Nat.reduceMul, Nat.reduceSub, Nat.reduceBEq, ↓reduceIte, w3])) | refine k_of (by assumption) ?_)
                  exact hend hn hm _ _ ⟨⟨rfl, rfl, rfl, rfl, trivial⟩, Keep.refl _, rfl, by simp only [lowB, lows_blC]; rfl, Nat.le_refl _, Nat.le_refl _⟩
                · cases hf
            · rw [if_neg c4] at hTM
              have q4 : decide (((a + B : Nat) : Int) < ((l.length : Nat) : Int)) = false := decide_eq_false (by omega)
              subst hTM
              repeat (first | refine tr_seq_k fun _ _ => ?_ | (refine tr_region ?_; simp only [go_sem, reduceCtorEq, Nat.reduceEqDiff, Nat.reduceLT, ↓reduceIte, q3]) | refine k_of (by assumption) ?_)
              refine tr_cond rfl (fun ht => ?_) (fun hf => ?_)
              · cases ht
              · repeat (first | refine tr_seq_k fun _ _ => ?_ | (refine tr_region ?_; simp only [go_sem, reduceCtorEq, Nat.reduceEqDiff, Nat.reduceLT, ↓reduceIte, w4, q4]) | refine k_of (by assumption) ?_ | (refine tr_exit ?_; try simp only [ex_seq_exit, ex_block_exit, ex_seq, ↓reduceIte]))
                refine tr_cond rfl (fun ht => ?_) (fun hf => ?_)
                · cases ht
                · repeat (first | (refine tr_region ?_; simp only [go_sem, reduceCtorEq, Nat.reduceEqDiff, Nat.reduceLT, ↓reduceIte, w3]) | refine k_of (by assumption) ?_ | (refine tr_skip ?_; try simp only [ex_seq]))
                  exact hend hMl hMs _ _ ⟨⟨rfl, rfl, rfl, rfl, trivial⟩, Keep.refl _, rfl, by simp only [lowB, lows_blC]; rfl, Nat.le_refl _, Nat.le_refl _⟩
        · cases hf
      · have q2 : decide ((B : Int) < ((l.length : Nat) : Int)) = false := decide_eq_false (by omega)
        have hTL : T = L := by
          rw [hTT]
          cases f with
          | zero => rfl
          | succ f => show (if B < L.length then _ else _) = _; rw [if_neg (by omega)]
        repeat (first | refine tr_seq_k fun _ _ => ?_ | (refine tr_region ?_; simp only [go_sem, reduceCtorEq, Nat.reduceEqDiff, Nat.reduceLT, ↓reduceIte, q2]) | refine k_of (by assumption) ?_)
        refine tr_cond rfl (fun ht => ?_) (fun hf => ?_)
        · cases ht
        · repeat ((refine tr_exit ?_; try simp only [ex_seq_exit, ex_block_exit, ↓reduceIte]))
          exact (hQ _ _ [] rfl rfl (by rw [hTL])).1
theorem sort_gives (l : List Atm) (hw : List Hw) (hl : l.length ≤ 1000000) (hsz : ∀ x ∈ l, AtSz x) : GivesW Tryd.prog 27 [.lsl 0 0 l.length 11, cmpF] ⟨[⟨false, blC atC l⟩], hw⟩ (.tup []) ⟨[⟨false, blC atC (srt ltA l)⟩], hw⟩ := by
  have c := stab_gives l hw hl hsz
  rw [stable_law (totK txA)] at c
  refine givesW_of' Tryd.func27 rfl (by kernel_rfl) Tryd.ntmps27 rfl rfl fun Q hQ => ?_
  repeat (first | (refine tr_region ?_; simp only [go_sem, List.getElem?_toArray, reduceCtorEq, Nat.reduceEqDiff, Nat.reduceLT, ↓reduceIte]) | (refine call_givesW (c) ?_; (try dsimp only); (try simp only [go_sem, reduceCtorEq, Nat.reduceEqDiff, Nat.reduceLT, Nat.reduceLeDiff, Nat.reduceAdd, Nat.reduceMul, Nat.reduceSub, Nat.reduceBEq, ↓reduceIte])))
  exact (hQ _ _ [] rfl rfl rfl).1
end Go.Proofs.YtinbfakpjnnagaaDoor
namespace Go.Vs.Sm
variable {T : Type}
def kpN (eq : T → T → Bool) (l : List T) : Nat → List T
  | 0 => []
  | j + 1 => kpN eq l j ++ (match l[j]? with
    | none => []
    | some y => match l[j - 1]? with
      | none => [y]
      | some x => if (0 < j ∧ eq y x = true) then [] else [y])
theorem kpN_first {eq : T → T → Bool} {l : List T} (h : 0 < l.length) : kpN eq l 1 = [l[0]] := by
  unfold kpN kpN
  rw [List.getElem?_eq_getElem h]
  simp []
theorem kpN_next {eq : T → T → Bool} {l : List T} {j : Nat} (h0 : 0 < j) (h : j < l.length) : kpN eq l (j + 1) = if eq l[j] l[j - 1] = true then kpN eq l j else kpN eq l j ++ [l[j]] := by
  rw [kpN, List.getElem?_eq_getElem h, List.getElem?_eq_getElem (by omega)]
  dsimp only
  by_cases he : eq l[j] l[j - 1] = true
  · rw [if_pos ⟨h0, he⟩, if_pos he, List.append_nil]
  · rw [if_neg (fun h => he h.2), if_neg he]
theorem kpN_len (eq : T → T → Bool) (l : List T) : ∀ j, (kpN eq l j).length ≤ j
  | 0 => Nat.le_refl _
  | j + 1 => by
    have ih := kpN_len eq l j
    rw [kpN, List.length_append]
    cases hj : l[j]? with
    | none => show _ + 0 ≤ _; omega
    | some y => cases hq : l[j - 1]? with
      | none => show _ + 1 ≤ _; omega
      | some x =>
        dsimp only
        split
        · show _ + 0 ≤ _; omega
        · show _ + 1 ≤ _; omega
def dfN (eq : T → T → Bool) (l : List T) (j : Nat) : List T := kpN eq l j ++ l.drop (kpN eq l j).length
theorem dfN_len (eq : T → T → Bool) (l : List T) {j : Nat} (hj : j ≤ l.length) : (dfN eq l j).length = l.length := by
  unfold dfN
  have := kpN_len eq l j
  rw [List.length_append, List.length_drop]
  omega
theorem dfN_at (eq : T → T → Bool) (l : List T) {j i : Nat} (hj : j ≤ l.length) (hk : (kpN eq l j).length ≤ i) (hi : i < l.length) : (dfN eq l j)[i]'(by rw [dfN_len eq l hj]; exact hi) = l[i] := by
  unfold dfN
  rw [List.getElem_append_right hk, List.getElem_drop]
  congr 1
  omega
theorem dfN_set {eq : T → T → Bool} {l : List T} {j : Nat} (h0 : 0 < j) (h : j < l.length) (he : eq l[j] l[j - 1] = false) : (dfN eq l j).set (kpN eq l j).length l[j] = dfN eq l (j + 1) := by
  have hl := kpN_len eq l j
  have e : kpN eq l (j + 1) = kpN eq l j ++ [l[j]] := by rw [kpN_next h0 h, if_neg (by rw [he]; decide)]
  unfold dfN
  rw [e, List.set_append_right _ _ (Nat.le_refl _), Nat.sub_self, List.length_append, List.length_singleton, List.append_assoc]
  congr 1
  have hlt : (kpN eq l j).length < l.length := by omega
  rw [List.drop_eq_getElem_cons hlt, List.set_cons_zero]
  rfl
theorem kpN_all {eq : T → T → Bool} {l : List T} : ∀ j, j ≤ l.length → (∀ i (hi : i < l.length), 0 < i → i < j → eq l[i] l[i - 1] = false) → kpN eq l j = l.take j
  | 0, _, _ => rfl
  | j + 1, hj, h => by
    have ih := kpN_all j (by omega) (fun i hi h0 h1 => h i hi h0 (by omega))
    rcases Nat.eq_zero_or_pos j with rfl | h0
    · rw [kpN_first (by omega), List.take_succ_eq_append_getElem (by omega)]
      rfl
    · rw [kpN_next h0 (by omega), if_neg (by rw [h j (by omega) h0 (by omega)]; decide), ih, List.take_succ_eq_append_getElem (by omega)]
/-! ### the same as what is kept of the runs of equals -/
def adjD (eq : T → T → Bool) (p : T) : List T → List T
  | [] => []
  | y :: r => if eq y p = true then adjD eq y r else y :: adjD eq y r
def lastD (p : T) : List T → T
  | [] => p
  | y :: r => lastD y r
theorem lastD_snoc (y : T) : ∀ (p : T) (r : List T), lastD p (r ++ [y]) = y
  | _, [] => rfl
  | p, z :: r => lastD_snoc y z r
theorem adjD_snoc (eq : T → T → Bool) (y : T) : ∀ (p : T) (r : List T), adjD eq p (r ++ [y]) = adjD eq p r ++ (if eq y (lastD p r) = true then [] else [y])
  | p, [] => by
    show (if eq y p = true then [] else [y]) = _
    rfl
  | p, z :: r => by
    have ih := adjD_snoc eq y z r
    show (if eq z p = true then adjD eq z (r ++ [y]) else z :: adjD eq z (r ++ [y])) = (if eq z p = true then adjD eq z r else z :: adjD eq z r) ++ _
    rw [ih]
    split <;> rfl
theorem lastD_get (x : T) (r : List T) : ∀ j (hj : j < (x :: r).length), lastD x (r.take j) = (x :: r)[j]
  | 0, _ => rfl
  | j + 1, hj => by
    have hj' : j < r.length := by simpa using hj
    rw [List.take_succ_eq_append_getElem hj', lastD_snoc]
    rfl
theorem kpN_adj (eq : T → T → Bool) (x : T) (r : List T) : ∀ j, j ≤ r.length → kpN eq (x :: r) (j + 1) = x :: adjD eq x (r.take j)
  | 0, _ => by rw [kpN_first (by simp)]; rfl
  | j + 1, hj => by
    have hj' : j < r.length := by omega
    have ih := kpN_adj eq x r j (by omega)
    rw [kpN_next (by omega) (by simpa using hj'), ih, List.take_succ_eq_append_getElem hj', adjD_snoc, lastD_get x r j (by simp; omega)]
    have e1 : (x :: r)[j + 1]'(by simpa using hj') = r[j] := rfl
    have e2 : (x :: r)[j + 1 - 1]'(by simp; omega) = (x :: r)[j]'(by simp; omega) := rfl
    rw [e1, e2]
    split
    · rw [List.append_nil]
    · rfl
theorem adjD_cm {lt : T → T → Bool} (O : Tot lt) : ∀ (x : T) (r : List T), adjD (eqB lt) x r = cm lt (dropEq lt x r)
  | x, [] => rfl
  | x, y :: r => by
    have ih := adjD_cm O y r
    unfold adjD dropEq
    by_cases h : eqB lt y x = true
    · rw [if_pos h, if_pos h, ih, dropEq_congr O h]
    · rw [if_neg h, if_neg h, cm_cons, ih]
theorem kpN_cm {lt : T → T → Bool} (O : Tot lt) (l : List T) : kpN (eqB lt) l l.length = cm lt l := by
  cases l with
  | nil => rfl
  | cons x r =>
    rw [List.length_cons, kpN_adj _ x r r.length (Nat.le_refl _), List.take_length, adjD_cm O, cm_cons]
theorem mem_merge' {le : T → T → Bool} {x : T} : ∀ {a b : List T}, x ∈ List.merge a b le → x ∈ a ∨ x ∈ b := fun {a b} h => List.mem_merge.1 h
theorem srt_mem {lt : T → T → Bool} {x : T} : ∀ {l : List T}, x ∈ srt lt l → x ∈ l := fun {l} => by
  have key : ∀ (k : Nat) (l : List T), l.length = k → x ∈ srt lt l → x ∈ l := fun k => by
    induction k with
    | zero => intro l hl h; rw [List.eq_nil_of_length_eq_zero hl] at h; exact absurd h (by simp [srt])
    | succ k ih =>
      intro l hl h
      have hne : l ≠ [] := fun e => by rw [e] at hl; cases hl
      rw [← List.dropLast_concat_getLast hne, srt_snoc] at h
      rw [← List.dropLast_concat_getLast hne, List.mem_append]
      rcases mem_merge' h with h | h
      · exact Or.inl (ih _ (by rw [List.length_dropLast]; omega) h)
      · exact Or.inr h
  exact key _ l rfl
end Go.Vs.Sm
namespace Go.Proofs.YtinbfakpjnnagaaDoor
open Go.RowKit Go.Vs Go.Vs.Ab Go.Vs.Sm
set_option maxRecDepth 100000
set_option maxHeartbeats 4000000
theorem cmpA_eq (a b : Atm) : decide (cmpA a b = 0) = eqB ltA a b := by
  have h := cmp_bl (txA a) (txA b)
  show decide (Lib.compareBytes (txA a) (txA b) = 0) = (!bl (txA a) (txA b) && !bl (txA b) (txA a))
  cases e1 : bl (txA a) (txA b) with
  | true =>
    have := h.1.2 e1
    exact decide_eq_false (by omega)
  | false =>
    cases e2 : bl (txA b) (txA a) with
    | true =>
      have := h.2.2 e2
      exact decide_eq_false (by omega)
    | false =>
      refine decide_eq_true ?_
      have a1 : ¬ Lib.compareBytes (txA a) (txA b) < 0 := fun q => by rw [h.1.1 q] at e1; cases e1
      have a2 : ¬ 0 < Lib.compareBytes (txA a) (txA b) := fun q => by rw [h.2.1 q] at e2; cases e2
      omega
def EqA : Atm → Atm → Bool := eqB ltA
abbrev eqF : AV := .fn (.func 30) [] []
theorem eqS_does (a b : Atm) (ha : AtSz a) (hb : AtSz b) : Does Tryd.prog 30 [atA a, atA b] (fun m => (bA (EqA a b), m)) := by
  have c1 := cmpA_does a b ha hb
  have e : decide (cmpA a b = 0) = EqA a b := cmpA_eq a b
  refine does_of' Tryd.func30 rfl (by kernel_rfl) rfl Tryd.ntmps30 rfl rfl fun Q hQ => ?_
  repeat (first | refine tr_seq_k fun _ _ => ?_ | (refine tr_region ?_; simp only [go_sem, reduceCtorEq, Nat.reduceEqDiff, Nat.reduceLT, Nat.reduceLeDiff, Nat.reduceAdd, ↓reduceIte]) | (refine call_of (c1) ?_ ?_; (first | rfl | simp only [go_sem, reduceCtorEq, Nat.reduceEqDiff, Nat.reduceLT, Nat.reduceLeDiff, Nat.reduceAdd, Nat.reduceMul, Nat.reduceSub, Nat.reduceBEq, ↓reduceIte, e, shut_col]); simp only [go_sem, reduceCtorEq, Nat.reduceEqDiff, Nat.reduceLT, ↓reduceIte, e]) | refine k_of (by assumption) ?_ | (refine tr_ret ?_; try simp only [ex_seq_ret, ex_block_ret]))
  refine (hQ _ _ [bA (EqA a b)] ?_ (fun m => ?_)).2 <;> simp only [go_sem, reduceCtorEq, Nat.reduceEqDiff, ↓reduceIte, Tryd.f30,]
theorem zeA13 : tzero Tryd.prog 39 = some (atC z12) := by kernel_rfl
theorem ixLB {lo n k : Nat} (h : k < n) : aIndexL Tryd.prog 33 (.lsl 0 lo n 11) (.c (.v (.int .i64 (k : Int)))) = some (.ptr 0 ((lo + k) * 11)) :=
  idxL (P := Tryd.prog) (size := 11) Tryd.underlying33 sz39 (by decide) (b := 0) (lo := lo) (ik := .i64) h
theorem compact_gives (l : List Atm) (hw : List Hw) (hl : l.length ≤ 1000000) (hsz : ∀ x ∈ l, AtSz x) : ∃ R, GivesW Tryd.prog 29 [.lsl 0 0 l.length 11, eqF] ⟨[⟨false, blC atC l⟩], hw⟩ (.lsl 0 0 (kpN EqA l l.length).length 11) ⟨[⟨false, blC atC (kpN EqA l l.length ++ R)⟩], hw⟩ := by
  by_cases hall : ∀ i (hi : i < l.length), 0 < i → EqA l[i] l[i - 1] = false
  · refine ⟨[], ?_⟩
    rw [List.append_nil, kpN_all l.length (Nat.le_refl _) (fun i hi h0 _ => hall i hi h0), List.take_length]
    by_cases h2 : l.length < 2
    · have q0 : decide (((l.length : Nat) : Int) < 2) = true := decide_eq_true (by omega)
      refine givesW_of' Tryd.func29 rfl (by kernel_rfl) Tryd.ntmps29 rfl rfl fun Q hQ => ?_
      repeat (first | refine tr_seq_k fun _ _ => ?_ | (refine tr_region ?_; simp only [go_sem, List.getElem?_toArray, reduceCtorEq, Nat.reduceEqDiff, Nat.reduceLT, ↓reduceIte, q0]) | refine k_of (by assumption) ?_)
      refine tr_cond rfl (fun ht => ?_) (fun hf => ?_)
      · repeat (first | refine tr_seq_k fun _ _ => ?_ | (refine tr_region ?_; simp only [go_sem, reduceCtorEq, Nat.reduceEqDiff, Nat.reduceLT, ↓reduceIte]) | refine k_of (by assumption) ?_ | (refine tr_ret ?_; try simp only [ex_seq_ret]))
        refine (hQ _ _ [.lsl 0 0 l.length 11] ?_ rfl rfl).2 <;> simp only [go_sem, reduceCtorEq, Nat.reduceEqDiff, ↓reduceIte, Tryd.f29]
      · cases hf
    · have q0 : decide (((l.length : Nat) : Int) < 2) = false := decide_eq_false (by omega)
      refine givesW_of' Tryd.func29 rfl (by kernel_rfl) Tryd.ntmps29 rfl rfl fun Q hQ => ?_
      repeat (first | refine tr_seq_k fun _ _ => ?_ | (refine tr_region ?_; simp only [go_sem, List.getElem?_toArray, reduceCtorEq, Nat.reduceEqDiff, Nat.reduceLT, ↓reduceIte, q0]) | refine k_of (by assumption) ?_)
      refine tr_cond rfl (fun ht => ?_) (fun hf => ?_)
      · cases ht
      · repeat (first | refine tr_seq_k fun _ _ => ?_ | (refine tr_region ?_; simp only [go_sem, reduceCtorEq, Nat.reduceEqDiff, Nat.reduceLT, ↓reduceIte]) | refine k_of (by assumption) ?_ | refine tr_block ?_ | (refine tr_skip ?_; try simp only [ex_seq]))
        refine tr_loop_k (σ := Nat) (fun k => [(0, .lsl 0 0 l.length 11), (1, eqF), (5, iA k)]) (fun k => ⟨[⟨false, blC atC l⟩], hw⟩)
          (fun k => 1 ≤ k ∧ k ≤ l.length) (fun k => l.length - k) 1 ⟨Nat.le_refl _, by omega⟩ ⟨rfl, rfl, rfl, trivial⟩ rfl ?_
        rintro k ⟨hk1, hk⟩ K hK
        by_cases hkl : k < l.length
        · have q1 : decide ((k : Int) < ((l.length : Nat) : Int)) = true := decide_eq_true (by omega)
          have hk2 : k - 1 < l.length := by omega
          have ws := wrap_succ (show k ≤ 1000000000 by omega)
          have wp := wrap_pre (show 0 < k by omega) (by omega)
          have cE := eqS_does l[k] l[k - 1] (hsz _ (List.getElem_mem hkl)) (hsz _ (List.getElem_mem hk2))
          rw [hall k hkl (by omega)] at cE
          have d1 := drLA hkl
          have d2 := drLA hk2
          repeat (first | refine tr_seq_k fun _ _ => ?_ | (refine tr_region ?_; simp only [go_sem, List.getElem?_toArray, reduceCtorEq, Nat.reduceEqDiff, Nat.reduceLT, ↓reduceIte, q1]) | refine k_of (by assumption) ?_)
          refine tr_cond rfl (fun ht => ?_) (fun hf => ?_)
          · repeat (first | refine tr_seq_k fun _ _ => ?_ | (refine tr_draw (id := 6) follows 10000 [10] [0, 1, 2, 3, 4, 5, 6, 7, 8, 9, 10] (by kernel_rfl) ?_; simp only [go_sem, List.getElem?_toArray, reduceCtorEq, Nat.reduceEqDiff, Nat.reduceLT, ↓reduceIte, wp, ixLA hkl, ixLA hk2, d1, d2, fitLA hkl, fitLA hk2]) | (refine call_of (cE) ?_ ?_; (first | rfl | simp only [go_sem, reduceCtorEq, Nat.reduceEqDiff, Nat.reduceLT, Nat.reduceLeDiff, Nat.reduceAdd, Nat.reduceMul, Nat.reduceSub, Nat.reduceBEq, ↓reduceIte, wp, ixLA hkl, ixLA hk2, d1, d2, fitLA hkl, fitLA hk2, shut_col]); simp only [go_sem, Bool.true_or]) | refine k_of (by assumption) ?_ | refine tr_block ?_ | (refine tr_skip ?_; try simp only [ex_seq]))
            refine tr_cond rfl (fun ht => ?_) (fun hf => ?_)
            · cases ht
            · repeat (first | (refine tr_region ?_; simp only [go_sem, reduceCtorEq, Nat.reduceEqDiff, Nat.reduceLT, ↓reduceIte, ws]) | refine k_of (by assumption) ?_ | (refine tr_skip ?_; try simp only [ex_seq, ex_block]))
              exact hK (k + 1) _ _ ⟨by omega, hkl⟩ ⟨⟨rfl, rfl, rfl, trivial⟩, Keep.refl _, rfl, by simp only [lowB, lows_blC]; rfl, Nat.le_refl _, Nat.le_refl _⟩ (by omega)
          · cases hf
        · have q1 : decide ((k : Int) < ((l.length : Nat) : Int)) = false := decide_eq_false (by omega)
          repeat (first | refine tr_seq_k fun _ _ => ?_ | (refine tr_region ?_; simp only [go_sem, List.getElem?_toArray, reduceCtorEq, Nat.reduceEqDiff, Nat.reduceLT, ↓reduceIte, q1]) | refine k_of (by assumption) ?_)
          refine tr_cond rfl (fun ht => ?_) (fun hf => ?_)
          · cases ht
          · repeat (first | refine tr_seq_k fun _ _ => ?_ | (refine tr_region ?_; simp only [go_sem, reduceCtorEq, Nat.reduceEqDiff, Nat.reduceLT, ↓reduceIte]) | refine k_of (by assumption) ?_ | (refine tr_exit ?_; try simp only [ex_seq_exit, ex_block_exit, ex_seq, ↓reduceIte]) | (refine tr_ret ?_; try simp only [ex_seq_ret, ex_block_ret]))
            refine (hQ _ _ [.lsl 0 0 l.length 11] ?_ rfl rfl).2 <;> simp only [go_sem, reduceCtorEq, Nat.reduceEqDiff, ↓reduceIte, Tryd.f29]
  · refine ⟨List.replicate (l.length - (kpN EqA l l.length).length) z12, ?_⟩
    have h2 : ¬ l.length < 2 := fun h => hall fun i hi h0 => by omega
    have q0 : decide (((l.length : Nat) : Int) < 2) = false := decide_eq_false (by omega)
    refine givesW_of' Tryd.func29 rfl (by kernel_rfl) Tryd.ntmps29 rfl rfl fun Q hQ => ?_
    repeat (first | refine tr_seq_k fun _ _ => ?_ | (refine tr_region ?_; simp only [go_sem, List.getElem?_toArray, reduceCtorEq, Nat.reduceEqDiff, Nat.reduceLT, ↓reduceIte, q0]) | refine k_of (by assumption) ?_)
    refine tr_cond rfl (fun ht => ?_) (fun hf => ?_)
    · cases ht
    · repeat (first | refine tr_seq_k fun _ _ => ?_ | (refine tr_region ?_; simp only [go_sem, reduceCtorEq, Nat.reduceEqDiff, Nat.reduceLT, ↓reduceIte]) | refine k_of (by assumption) ?_ | refine tr_block ?_ | (refine tr_skip ?_; try simp only [ex_seq]))
      refine tr_loop_k (σ := Nat) (fun k => [(0, .lsl 0 0 l.length 11), (1, eqF), (5, iA k)]) (fun k => ⟨[⟨false, blC atC l⟩], hw⟩)
        (fun k => 1 ≤ k ∧ k ≤ l.length ∧ ∀ i (hi : i < l.length), 0 < i → i < k → EqA l[i] l[i - 1] = false) (fun k => l.length - k) 1 ⟨Nat.le_refl _, by omega, fun i hi h0 h1 => by omega⟩ ⟨rfl, rfl, rfl, trivial⟩ rfl ?_
      rintro k ⟨hk1, hk, hno⟩ K hK
      by_cases hkl : k < l.length
      · have q1 : decide ((k : Int) < ((l.length : Nat) : Int)) = true := decide_eq_true (by omega)
        have hk2 : k - 1 < l.length := by omega
        have ws := wrap_succ (show k ≤ 1000000000 by omega)
        have wp := wrap_pre (show 0 < k by omega) (by omega)
        have cE := eqS_does l[k] l[k - 1] (hsz _ (List.getElem_mem hkl)) (hsz _ (List.getElem_mem hk2))
        have d1 := drLA hkl
        have d2 := drLA hk2
        cases hE : EqA l[k] l[k - 1] with
        | false =>
          rw [hE] at cE
          repeat (first | refine tr_seq_k fun _ _ => ?_ | (refine tr_region ?_; simp only [go_sem, List.getElem?_toArray, reduceCtorEq, Nat.reduceEqDiff, Nat.reduceLT, ↓reduceIte, q1]) | refine k_of (by assumption) ?_)
          refine tr_cond rfl (fun ht => ?_) (fun hf => ?_)
          · repeat (first | refine tr_seq_k fun _ _ => ?_ | (refine tr_draw (id := 6) follows 10000 [10] [0, 1, 2, 3, 4, 5, 6, 7, 8, 9, 10] (by kernel_rfl) ?_; simp only [go_sem, List.getElem?_toArray, reduceCtorEq, Nat.reduceEqDiff, Nat.reduceLT, ↓reduceIte, wp, ixLA hkl, ixLA hk2, d1, d2, fitLA hkl, fitLA hk2]) | (refine call_of (cE) ?_ ?_; (first | rfl | simp only [go_sem, reduceCtorEq, Nat.reduceEqDiff, Nat.reduceLT, Nat.reduceLeDiff, Nat.reduceAdd, Nat.reduceMul, Nat.reduceSub, Nat.reduceBEq, ↓reduceIte, wp, ixLA hkl, ixLA hk2, d1, d2, fitLA hkl, fitLA hk2, shut_col]); simp only [go_sem, Bool.true_or]) | refine k_of (by assumption) ?_ | refine tr_block ?_ | (refine tr_skip ?_; try simp only [ex_seq]))
            refine tr_cond rfl (fun ht => ?_) (fun hf => ?_)
            · cases ht
            · repeat (first | (refine tr_region ?_; simp only [go_sem, reduceCtorEq, Nat.reduceEqDiff, Nat.reduceLT, ↓reduceIte, ws]) | refine k_of (by assumption) ?_ | (refine tr_skip ?_; try simp only [ex_seq, ex_block]))
              exact hK (k + 1) _ _ ⟨by omega, hkl, fun i hi h0 h1 => by
                by_cases e : i = k
                · subst e; exact hE
                · exact hno i hi h0 (by omega)⟩ ⟨⟨rfl, rfl, rfl, trivial⟩, Keep.refl _, rfl, by simp only [lowB, lows_blC]; rfl, Nat.le_refl _, Nat.le_refl _⟩ (by omega)
          · cases hf
        | true =>
          rw [hE] at cE
          have sl := slL_from (P := Tryd.prog) (size := 11) Tryd.underlying33 sz39 (b := 0) (lo := 0) hk
          rw [Nat.zero_add] at sl
          have hkp : kpN EqA l k = l.take k := kpN_all k hk hno
          have hkp1 : kpN EqA l (k + 1) = l.take k := by rw [kpN_next (by omega) hkl, if_pos hE, hkp]
          have hlen1 : (kpN EqA l (k + 1)).length = k := by rw [hkp1, List.length_take]; omega
          have hdf1 : dfN EqA l (k + 1) = l := by unfold dfN; rw [hlen1, hkp1, List.take_append_drop]
          repeat (first | refine tr_seq_k fun _ _ => ?_ | (refine tr_region ?_; simp only [go_sem, List.getElem?_toArray, reduceCtorEq, Nat.reduceEqDiff, Nat.reduceLT, ↓reduceIte, q1]) | refine k_of (by assumption) ?_)
          refine tr_cond rfl (fun ht => ?_) (fun hf => ?_)
          · repeat (first | refine tr_seq_k fun _ _ => ?_ | (refine tr_draw (id := 6) follows 10000 [10] [0, 1, 2, 3, 4, 5, 6, 7, 8, 9, 10] (by kernel_rfl) ?_; simp only [go_sem, List.getElem?_toArray, reduceCtorEq, Nat.reduceEqDiff, Nat.reduceLT, ↓reduceIte, wp, ixLA hkl, ixLA hk2, d1, d2, fitLA hkl, fitLA hk2]) | (refine call_of (cE) ?_ ?_; (first | rfl | simp only [go_sem, reduceCtorEq, Nat.reduceEqDiff, Nat.reduceLT, Nat.reduceLeDiff, Nat.reduceAdd, Nat.reduceMul, Nat.reduceSub, Nat.reduceBEq, ↓reduceIte, wp, ixLA hkl, ixLA hk2, d1, d2, fitLA hkl, fitLA hk2, shut_col]); simp only [go_sem, Bool.true_or]) | refine k_of (by assumption) ?_ | refine tr_block ?_ | (refine tr_skip ?_; try simp only [ex_seq]))
            refine tr_cond rfl (fun ht => ?_) (fun hf => ?_)
            · repeat (first | refine tr_seq_k fun _ _ => ?_ | (refine tr_region ?_; simp only [go_sem, reduceCtorEq, Nat.reduceEqDiff, Nat.reduceLT, ↓reduceIte, sl]) | refine k_of (by assumption) ?_ | refine tr_block ?_)
              refine tr_loop_k (σ := Nat) (fun q => [(0, .lsl 0 0 l.length 11), (1, eqF), (5, iA (kpN EqA l (k + q)).length), (6, .lsl 0 k (l.length - k) 11), (7, iA q)]) (fun q => ⟨[⟨false, blC atC (dfN EqA l (k + q))⟩], hw⟩)
                (fun q => 1 ≤ q ∧ k + q ≤ l.length ∧ (kpN EqA l (k + q)).length + 1 ≤ k + q) (fun q => l.length - (k + q)) 1 ⟨Nat.le_refl _, by omega, by omega⟩ ⟨rfl, rfl, by rw [hlen1]; rfl, rfl, rfl, trivial⟩ (by rw [hdf1]) ?_
              rintro q ⟨hq1, hq, hkl2⟩ K2 hK2
              have hKq := hK2 (q + 1)
              by_cases hql : k + q < l.length
              · have q2 : decide ((q : Int) < ((l.length - k : Nat) : Int)) = true := decide_eq_true (by omega)
                have ws2 := wrap_succ (show q ≤ 1000000000 by omega)
                have wp2 := wrap_pre (show 0 < q by omega) (by omega)
                have wk := wrap_succ (show (kpN EqA l (k + q)).length ≤ 1000000000 by omega)
                have hq2 : k + q - 1 < l.length := by omega
                have hdl := dfN_len EqA l hq
                have b1 : k + q < (dfN EqA l (k + q)).length := by rw [hdl]; exact hql
                have b2 : k + q - 1 < (dfN EqA l (k + q)).length := by rw [hdl]; exact hq2
                have b3 : (kpN EqA l (k + q)).length < (dfN EqA l (k + q)).length := by rw [hdl]; omega
                have b3' : (kpN EqA l (k + q)).length < l.length := by omega
                have d3 := drLA b1
                have d4 := drLA b2
                rw [dfN_at EqA l hq (by omega) hql] at d3
                rw [dfN_at EqA l hq (by omega) hq2] at d4
                have i1 := ixLB (lo := k) (show q < l.length - k by omega)
                have i2 := ixLB (lo := k) (show q - 1 < l.length - k by omega)
                rw [show k + (q - 1) = k + q - 1 by omega] at i2
                have cF := eqS_does l[k + q] l[k + q - 1] (hsz _ (List.getElem_mem hql)) (hsz _ (List.getElem_mem hq2))
                have hnx := kpN_next (eq := EqA) (show 0 < k + q by omega) hql
                have hset := dfN_set (eq := EqA) (show 0 < k + q by omega) hql
                have hassoc : k + (q + 1) = k + q + 1 := rfl
                rw [hassoc] at hKq
                cases hG : EqA l[k + q] l[k + q - 1] with
                | true =>
                  rw [hG] at cF hnx
                  have hnx : kpN EqA l (k + q + 1) = kpN EqA l (k + q) := hnx
                  have hdf : dfN EqA l (k + q + 1) = dfN EqA l (k + q) := by unfold dfN; rw [hnx]
                  rw [hnx, hdf] at hKq
                  repeat (first | refine tr_seq_k fun _ _ => ?_ | (refine tr_region ?_; simp only [go_sem, List.getElem?_toArray, reduceCtorEq, Nat.reduceEqDiff, Nat.reduceLT, ↓reduceIte, q2]) | refine k_of (by assumption) ?_)
                  refine tr_cond rfl (fun ht => ?_) (fun hf => ?_)
                  · repeat (first | refine tr_seq_k fun _ _ => ?_ | (refine tr_draw (id := 11) follows 10000 [10] [0, 1, 2, 3, 4, 5, 6, 7, 8, 9, 10, 11] (by kernel_rfl) ?_; simp only [go_sem, List.getElem?_toArray, reduceCtorEq, Nat.reduceEqDiff, Nat.reduceLT, ↓reduceIte, wp2, i1, i2, d3, d4, fitLA b1, fitLA b2]) | (refine call_of (cF) ?_ ?_; (first | rfl | simp only [go_sem, reduceCtorEq, Nat.reduceEqDiff, Nat.reduceLT, Nat.reduceLeDiff, Nat.reduceAdd, Nat.reduceMul, Nat.reduceSub, Nat.reduceBEq, ↓reduceIte, wp2, i1, i2, d3, d4, fitLA b1, fitLA b2, shut_col]); simp only [go_sem, reduceCtorEq, Nat.reduceEqDiff, Nat.reduceLT, ↓reduceIte, Bool.true_or]) | refine k_of (by assumption) ?_ | refine tr_block ?_ | (refine tr_skip ?_; try simp only [ex_seq]))
                    refine tr_cond rfl (fun ht => ?_) (fun hf => ?_)
                    · cases ht
                    · repeat (first | (refine tr_region ?_; simp only [go_sem, reduceCtorEq, Nat.reduceEqDiff, Nat.reduceLT, ↓reduceIte, ws2]) | refine k_of (by assumption) ?_ | (refine tr_skip ?_; try simp only [ex_seq, ex_block]))
                      exact hKq _ _ ⟨by omega, hql, by omega⟩ ⟨⟨rfl, rfl, rfl, rfl, rfl, trivial⟩, Keep.refl _, rfl, by simp only [lowB, lows_blC]; rfl, Nat.le_refl _, Nat.le_refl _⟩ (by omega)
                  · cases hf
                | false =>
                  rw [hG] at cF hnx
                  have hnx : kpN EqA l (k + q + 1) = kpN EqA l (k + q) ++ [l[k + q]] := hnx
                  have hle : (kpN EqA l (k + q + 1)).length = (kpN EqA l (k + q)).length + 1 := by rw [hnx, List.length_append]; rfl
                  have st := setLA b3 l[k + q]
                  rw [hset hG] at st
                  rw [hle] at hKq
                  repeat (first | refine tr_seq_k fun _ _ => ?_ | (refine tr_region ?_; simp only [go_sem, List.getElem?_toArray, reduceCtorEq, Nat.reduceEqDiff, Nat.reduceLT, ↓reduceIte, q2]) | refine k_of (by assumption) ?_)
                  refine tr_cond rfl (fun ht => ?_) (fun hf => ?_)
                  · repeat (first | refine tr_seq_k fun _ _ => ?_ | (refine tr_draw (id := 11) follows 10000 [10] [0, 1, 2, 3, 4, 5, 6, 7, 8, 9, 10, 11] (by kernel_rfl) ?_; simp only [go_sem, List.getElem?_toArray, reduceCtorEq, Nat.reduceEqDiff, Nat.reduceLT, ↓reduceIte, wp2, i1, i2, d3, d4, fitLA b1, fitLA b2]) | (refine call_of (cF) ?_ ?_; (first | rfl | simp only [go_sem, reduceCtorEq, Nat.reduceEqDiff, Nat.reduceLT, Nat.reduceLeDiff, Nat.reduceAdd, Nat.reduceMul, Nat.reduceSub, Nat.reduceBEq, ↓reduceIte, wp2, i1, i2, d3, d4, fitLA b1, fitLA b2, shut_col]); simp only [go_sem, reduceCtorEq, Nat.reduceEqDiff, Nat.reduceLT, ↓reduceIte, Bool.true_or]) | refine k_of (by assumption) ?_ | refine tr_block ?_ | (refine tr_skip ?_; try simp only [ex_seq]))
                    refine tr_cond rfl (fun ht => ?_) (fun hf => ?_)
                    · repeat (first | refine tr_seq_k fun _ _ => ?_ | (refine tr_region ?_; simp only [go_sem, reduceCtorEq, Nat.reduceEqDiff, Nat.reduceLT, Nat.reduceAdd, ↓reduceIte, i1, d3, fitLA b1, ixLA b3', fitLA b3, st, ws2, wk]) | refine k_of (by assumption) ?_)
                      exact hKq _ _ ⟨by omega, hql, by omega⟩ ⟨⟨rfl, rfl, rfl, rfl, rfl, trivial⟩, Keep.refl _, rfl, by simp only [lowB, lows_blC]; rfl, Nat.le_refl _, Nat.le_refl _⟩ (by omega)
                    · cases hf
                  · cases hf
              · have q2 : decide ((q : Int) < ((l.length - k : Nat) : Int)) = false := decide_eq_false (by omega)
                have hqe : k + q = l.length := by omega
                rw [hqe] at hkl2 ⊢
                have hle := kpN_len EqA l l.length
                have hdl := dfN_len EqA l (Nat.le_refl l.length)
                have s1 := slL_from (P := Tryd.prog) (size := 11) Tryd.underlying33 sz39 (b := 0) (lo := 0) hle
                rw [Nat.zero_add] at s1
                have s2 := slL_to (P := Tryd.prog) (size := 11) Tryd.underlying33 sz39 (b := 0) (lo := 0) hle
                have cl := clear_blC (P := Tryd.prog) (enc := atC) (size := 11) (fun _ => rfl) (by decide) Tryd.underlying33 zeA13 (l := dfN EqA l l.length) (i := (kpN EqA l l.length).length) (by omega) (hw := hw)
                rw [hdl, show (dfN EqA l l.length).take (kpN EqA l l.length).length = kpN EqA l l.length from List.take_left' rfl] at cl
                repeat (first | refine tr_seq_k fun _ _ => ?_ | (refine tr_region ?_; simp only [go_sem, List.getElem?_toArray, reduceCtorEq, Nat.reduceEqDiff, Nat.reduceLT, ↓reduceIte, q2]) | refine k_of (by assumption) ?_)
                refine tr_cond rfl (fun ht => ?_) (fun hf => ?_)
                · cases ht
                · repeat (first | refine tr_seq_k fun _ _ => ?_ | (refine tr_region ?_; simp only [go_sem, reduceCtorEq, Nat.reduceEqDiff, Nat.reduceLT, ↓reduceIte, s1, s2, cl]) | refine k_of (by assumption) ?_ | (refine tr_exit ?_; try simp only [ex_seq_exit, ex_block_exit, ex_seq, ↓reduceIte]) | (refine tr_ret ?_; try simp only [ex_seq_ret, ex_block_ret]))
                  refine (hQ _ _ [.lsl 0 0 (kpN EqA l l.length).length 11] ?_ rfl rfl).2 <;> simp only [go_sem, reduceCtorEq, Nat.reduceEqDiff, ↓reduceIte, Tryd.f29]
            · cases hf
          · cases hf
      · exact absurd (fun i hi h0 => hno i hi h0 (by omega)) hall
end Go.Proofs.YtinbfakpjnnagaaDoor
namespace Go.Proofs.YtinbfakpjnnagaaDoor
open Go.RowKit Go.Vs Go.Vs.Ab Go.Vs.Sm
set_option maxRecDepth 100000
set_option maxHeartbeats 4000000
/-! ### nothing to sort -/
abbrev slZ : AV := .c (.sl true 0 [])
theorem ins0_does : Does Tryd.prog 52 [slZ, iA 0, iA 0, cmpF] (fun m => (.tup [], m)) := by
  have w1 : IntKind.i64.wrap ((0 : Int) + 1) = 1 := by decide
  have w2 : IntKind.i64.wrap 1 = 1 := by decide
  have q1 : decide ((1 : Int) < 0) = false := by decide
  refine does_of' Tryd.func52 rfl (by kernel_rfl) rfl Tryd.ntmps52 rfl rfl fun Q hQ => ?_
  repeat (first | refine tr_seq_k fun _ _ => ?_ | (refine tr_region ?_; simp only [go_sem, reduceCtorEq, Nat.reduceEqDiff, Nat.reduceLT, Nat.reduceAdd, ↓reduceIte, w1]) | refine k_of (by assumption) ?_ | refine tr_block ?_)
  refine tr_loop_k (σ := Unit) (fun _ => [(2, iA 0), (8, iA 1)]) (fun _ => ⟨[], []⟩) (fun _ => True) (fun _ => 0) () trivial ⟨rfl, rfl, trivial⟩ rfl ?_
  rintro _ _ K hK
  repeat (first | refine tr_seq_k fun _ _ => ?_ | (refine tr_region ?_; simp only [go_sem, Nat.reduceEqDiff, Nat.reduceLT, ↓reduceIte, q1]) | refine k_of (by assumption) ?_)
  refine tr_cond rfl (fun ht => ?_) (fun hf => ?_)
  · cases ht
  · repeat ((refine tr_exit ?_; try simp only [ex_seq_exit, ex_block_exit, ↓reduceIte]))
    exact (hQ _ _ [] rfl (fun m => rfl)).1
theorem stab0_does : Does Tryd.prog 41 [slZ, iA 0, cmpF] (fun m => (.tup [], m)) := by
  have c1 := ins0_does
  have q1 : decide ((20 : Int) ≤ 0) = false := by decide
  have q2 : decide ((20 : Int) < 0) = false := by decide
  refine does_of' Tryd.func41 rfl (by kernel_rfl) rfl Tryd.ntmps41 rfl rfl fun Q hQ => ?_
  repeat (first | refine tr_seq_k fun _ _ => ?_ | (refine tr_region ?_; simp only [go_sem, reduceCtorEq, Nat.reduceEqDiff, Nat.reduceLT, Nat.reduceAdd, ↓reduceIte]) | refine k_of (by assumption) ?_ | refine tr_block ?_)
  refine tr_loop_k (σ := Unit) (fun _ => [(0, slZ), (1, iA 0), (2, cmpF), (6, iA 20), (7, iA 0), (8, iA 20)]) (fun _ => ⟨[], []⟩) (fun _ => True) (fun _ => 0) () trivial ⟨rfl, rfl, rfl, rfl, rfl, rfl, trivial⟩ rfl ?_
  rintro _ _ K hK
  repeat (first | refine tr_seq_k fun _ _ => ?_ | (refine tr_region ?_; simp only [go_sem, reduceCtorEq, Nat.reduceEqDiff, Nat.reduceLT, ↓reduceIte, q1]) | refine k_of (by assumption) ?_)
  refine tr_cond rfl (fun ht => ?_) (fun hf => ?_)
  · cases ht
  · repeat (first | refine tr_seq_k fun _ _ => ?_ | (refine tr_region ?_; simp only [go_sem, reduceCtorEq, Nat.reduceEqDiff, Nat.reduceLT, ↓reduceIte]) | (refine call_of (c1) ?_ ?_; (first | rfl | simp only [go_sem, reduceCtorEq, Nat.reduceEqDiff, Nat.reduceLT, Nat.reduceLeDiff, Nat.reduceAdd, Nat.reduceMul, Nat.reduceSub, Nat.reduceBEq, ↓reduceIte, shut_col]); simp only [go_sem]) | refine k_of (by assumption) ?_ | refine tr_block ?_ | (refine tr_exit ?_; try simp only [ex_seq_exit, ex_block_exit, ex_seq, ↓reduceIte]))
    refine tr_loop_k (σ := Unit) (fun _ => [(1, iA 0), (6, iA 20)]) (fun _ => ⟨[], []⟩) (fun _ => True) (fun _ => 0) () trivial ⟨rfl, rfl, trivial⟩ rfl ?_
    rintro _ _ K hK
    repeat (first | refine tr_seq_k fun _ _ => ?_ | (refine tr_region ?_; simp only [go_sem, Nat.reduceEqDiff, Nat.reduceLT, ↓reduceIte, q2]) | refine k_of (by assumption) ?_)
    refine tr_cond rfl (fun ht => ?_) (fun hf => ?_)
    · cases ht
    · repeat ((refine tr_exit ?_; try simp only [ex_seq_exit, ex_block_exit, ↓reduceIte]))
      exact (hQ _ _ [] rfl (fun m => rfl)).1
theorem sort0_does : Does Tryd.prog 27 [slZ, cmpF] (fun m => (.tup [], m)) := by
  have c1 := stab0_does
  refine does_of' Tryd.func27 rfl (by kernel_rfl) rfl Tryd.ntmps27 rfl rfl fun Q hQ => ?_
  repeat (first | (refine tr_region ?_; simp only [go_sem, List.getElem?_toArray, reduceCtorEq, Nat.reduceEqDiff, Nat.reduceLT, ↓reduceIte]) | (refine call_of (c1) ?_ ?_; (first | rfl | simp only [go_sem, reduceCtorEq, Nat.reduceEqDiff, Nat.reduceLT, Nat.reduceLeDiff, Nat.reduceAdd, Nat.reduceMul, Nat.reduceSub, Nat.reduceBEq, ↓reduceIte, shut_col]); simp only [go_sem]))
  exact (hQ _ _ [] rfl (fun m => rfl)).1
theorem compact0_does : Does Tryd.prog 29 [slZ, eqF] (fun m => (slZ, m)) := by
  have q1 : decide (((0 : Nat) : Int) < 2) = true := by decide
  refine does_of' Tryd.func29 rfl (by kernel_rfl) rfl Tryd.ntmps29 rfl rfl fun Q hQ => ?_
  repeat (first | refine tr_seq_k fun _ _ => ?_ | (refine tr_region ?_; simp only [go_sem, List.getElem?_toArray, reduceCtorEq, Nat.reduceEqDiff, Nat.reduceLT, ↓reduceIte, q1]) | refine k_of (by assumption) ?_)
  refine tr_cond rfl (fun ht => ?_) (fun hf => ?_)
  · repeat (first | refine tr_seq_k fun _ _ => ?_ | (refine tr_region ?_; simp only [go_sem, reduceCtorEq, Nat.reduceEqDiff, Nat.reduceLT, ↓reduceIte]) | refine k_of (by assumption) ?_ | (refine tr_ret ?_; try simp only [ex_seq_ret]))
    refine (hQ _ _ [slZ] ?_ (fun m => rfl)).2 <;> simp only [go_sem, reduceCtorEq, Nat.reduceEqDiff, ↓reduceIte, Tryd.f29]
  · cases hf
/-! ### order.Sorted -/
def srtA (l : List Atm) : List Atm := cm ltA (srt ltA l)
theorem sorted_does (l : List Atm) (ex : Bool) (hl : l.length ≤ 1000000) (hsz : ∀ x ∈ l, AtSz x) : Does Tryd.prog 17 [.c (slC atC ex l)] (fun m => (.c (slC atC l.isEmpty (srtA l)), m)) := by
  by_cases hne : l = []
  · subst hne
    have c1 : Does Tryd.prog 25 [.c (slC atC ex ([] : List Atm))] (fun m => (slZ, { m with hw := m.hw ++ [] })) := cloneA_own [] ex (by simp)
    have c2 := sort0_does
    have c3 := compact0_does
    refine does_of' Tryd.func17 rfl (by kernel_rfl) rfl Tryd.ntmps17 rfl rfl fun Q hQ => ?_
    repeat (first | refine tr_seq_k fun _ _ => ?_ | (refine tr_region ?_; simp only [go_sem, reduceCtorEq, Nat.reduceEqDiff, Nat.reduceLT, ↓reduceIte, List.append_nil]) | (refine call_of (c1) ?_ ?_; (first | rfl | simp only [go_sem, reduceCtorEq, Nat.reduceEqDiff, Nat.reduceLT, Nat.reduceLeDiff, Nat.reduceAdd, Nat.reduceMul, Nat.reduceSub, Nat.reduceBEq, ↓reduceIte, List.append_nil, shut_col]); simp only [go_sem, List.append_nil]) | (refine call_of (c2) ?_ ?_; (first | rfl | simp only [go_sem, reduceCtorEq, Nat.reduceEqDiff, Nat.reduceLT, Nat.reduceLeDiff, Nat.reduceAdd, Nat.reduceMul, Nat.reduceSub, Nat.reduceBEq, ↓reduceIte, List.append_nil, shut_col]); simp only [go_sem]) | (refine call_of (c3) ?_ ?_; (first | rfl | simp only [go_sem, reduceCtorEq, Nat.reduceEqDiff, Nat.reduceLT, Nat.reduceLeDiff, Nat.reduceAdd, Nat.reduceMul, Nat.reduceSub, Nat.reduceBEq, ↓reduceIte, List.append_nil, shut_col]); simp only [go_sem]) | refine k_of (by assumption) ?_ | (refine tr_ret ?_; try simp only [ex_seq_ret, ex_block_ret]))
    refine (hQ _ _ [slZ] ?_ (fun m => rfl)).2 <;> simp only [go_sem, reduceCtorEq, ↓reduceIte, Tryd.f17]
  · have c1 := cloneA_own l ex hl
    have e : freshA atC 39 11 l = fun m => (.own m.hw.length l.length (l.flatMap atC), { m with hw := m.hw ++ [⟨l.length, 39, 11⟩] }) := by
      funext m
      unfold freshA
      rw [colA_ne atC _ hne, colH_ne _ _ hne]
    rw [e] at c1
    clear e
    have c2 : Gives Tryd.prog 25 [.c (slC atC ex l)] ⟨[], []⟩ (.lsl 0 0 l.length 11) ⟨[⟨false, blC atC l⟩], []⟩ := c1.lsl (args := [.c (slC atC ex l)]) rfl (k := 0) rfl (by rfl) (vals_flat vals_atC l) ⟨[], []⟩
    have c3 := sort_gives l [] hl hsz
    have hn := srt_len ltA l.length l rfl
    have hm : ∀ x ∈ srt ltA l, AtSz x := fun x hx => hsz x (srt_mem hx)
    obtain ⟨R, c4⟩ := compact_gives (srt ltA l) [] (by omega) hm
    have c4 := c4.freeze (ds := (kpN EqA (srt ltA l) (srt ltA l).length ++ R).flatMap atC) rfl
    rw [Nat.zero_mul, List.drop_zero, take_flat (enc := atC) (size := 11) (fun _ => rfl), List.take_left' rfl, show kpN EqA (srt ltA l) (srt ltA l).length = srtA l from kpN_cm (totK txA) _, hn] at c4
    have hie : l.isEmpty = false := by cases l with
      | nil => exact absurd rfl hne
      | cons => rfl
    rw [hie]
    clear c1
    refine does_of' Tryd.func17 rfl (by kernel_rfl) rfl Tryd.ntmps17 rfl rfl fun Q hQ => ?_
    repeat (first | refine tr_seq_k fun _ _ => ?_ | (refine tr_region ?_; simp only [go_sem, reduceCtorEq, Nat.reduceEqDiff, Nat.reduceLT, ↓reduceIte]) | (refine call_gives (c2) ?_; (try dsimp only); (try simp only [go_sem, reduceCtorEq, Nat.reduceEqDiff, Nat.reduceLT, Nat.reduceLeDiff, Nat.reduceAdd, Nat.reduceMul, Nat.reduceSub, Nat.reduceBEq, ↓reduceIte])) | (refine call_givesW (c3) ?_; (try dsimp only); (try simp only [go_sem, reduceCtorEq, Nat.reduceEqDiff, Nat.reduceLT, Nat.reduceLeDiff, Nat.reduceAdd, Nat.reduceMul, Nat.reduceSub, Nat.reduceBEq, ↓reduceIte])) | (refine call_givesW (c4) ?_; (try dsimp only); (try simp only [go_sem])) | refine k_of (by assumption) ?_ | (refine tr_ret ?_; try simp only [ex_seq_ret, ex_block_ret]))
    refine (hQ _ _ [.c (slC atC false (srtA l))] ?_ (fun m => rfl)).2 <;> simp only [go_sem, reduceCtorEq, ↓reduceIte, Tryd.f17]
end Go.Proofs.YtinbfakpjnnagaaDoor
namespace Go.Proofs.YtinbfakpjnnagaaDoor
open Go.RowKit Go.Vs Go.Vs.Ab
set_option maxRecDepth 100000
set_option maxHeartbeats 4000000
def fmStep (acc : List Atm) (x : Atm) : List Atm := if formA x ∈ acc then acc else acc ++ [formA x]
def fdist (l : List Atm) : List Atm := l.foldl fmStep []
theorem fdist_next {l : List Atm} {k : Nat} (h : k < l.length) : fdist (l.take (k + 1)) = fmStep (fdist (l.take k)) l[k] := by
  unfold fdist
  rw [List.take_succ_eq_append_getElem h, List.foldl_append]
  rfl
theorem fdist_len : ∀ (l : List Atm) (acc : List Atm), (l.foldl fmStep acc).length ≤ acc.length + l.length
  | [], acc => by simp
  | x :: l, acc => by
    have := fdist_len l (fmStep acc x)
    have h2 : (fmStep acc x).length ≤ acc.length + 1 := by
      unfold fmStep
      split <;> simp
    rw [List.foldl_cons, List.length_cons]
    omega
theorem fdist_le (l : List Atm) : (fdist l).length ≤ l.length := by
  have := fdist_len l []
  simpa [fdist] using this
theorem fdist_mem : ∀ (l acc : List Atm) {x : Atm}, x ∈ l.foldl fmStep acc ↔ x ∈ acc ∨ ∃ a ∈ l, x = formA a
  | [], acc, x => by simp
  | a :: l, acc, x => by
    rw [List.foldl_cons, fdist_mem l]
    unfold fmStep
    split
    · rename_i h
      constructor
      · rintro (h1 | ⟨b, h1, h2⟩)
        · exact Or.inl h1
        · exact Or.inr ⟨b, List.mem_cons_of_mem _ h1, h2⟩
      · rintro (h1 | ⟨b, h1, h2⟩)
        · exact Or.inl h1
        · rcases List.mem_cons.1 h1 with rfl | h1
          · exact Or.inl (h2 ▸ h)
          · exact Or.inr ⟨b, h1, h2⟩
    · constructor
      · rintro (h1 | ⟨b, h1, h2⟩)
        · rcases List.mem_append.1 h1 with h1 | h1
          · exact Or.inl h1
          · rw [List.mem_singleton] at h1
            exact Or.inr ⟨a, List.mem_cons_self, h1⟩
        · exact Or.inr ⟨b, List.mem_cons_of_mem _ h1, h2⟩
      · rintro (h1 | ⟨b, h1, h2⟩)
        · exact Or.inl (List.mem_append_left _ h1)
        · rcases List.mem_cons.1 h1 with rfl | h1
          · exact Or.inl (List.mem_append_right _ (List.mem_singleton.2 h2))
          · exact Or.inr ⟨b, h1, h2⟩
theorem mem_fdist {l : List Atm} {x : Atm} : x ∈ fdist l ↔ ∃ a ∈ l, x = formA a := by
  unfold fdist
  rw [fdist_mem]
  simp
theorem setArg_arg (b : Atm) {k j : Nat} (hk : k < 4) (hj : j < 4) (t : Tm) : (Atm.setArg b k t).arg j = if j = k then t else b.arg j := by
  obtain rfl | rfl | rfl | rfl : k = 0 ∨ k = 1 ∨ k = 2 ∨ k = 3 := by omega
  all_goals obtain rfl | rfl | rfl | rfl : j = 0 ∨ j = 1 ∨ j = 2 ∨ j = 3 := by omega
  all_goals rfl
theorem formK_arg (a : Atm) : ∀ k, k ≤ 4 → ∀ j, j < 4 → (formK a k).arg j = if j < k then vt j else ⟨false, ⟨#[]⟩⟩
  | 0, _, j, hj => by
    rw [if_neg (Nat.not_lt_zero j)]
    obtain rfl | rfl | rfl | rfl : j = 0 ∨ j = 1 ∨ j = 2 ∨ j = 3 := by omega
    all_goals rfl
  | k + 1, hk, j, hj => by
    show (Atm.setArg (formK a k) k (vt k)).arg j = _
    rw [setArg_arg _ (by omega) hj, formK_arg a k (by omega) j hj]
    by_cases h : j = k
    · subst h
      rw [if_pos rfl, if_pos (Nat.lt_succ_self j)]
    · rw [if_neg h]
      by_cases h2 : j < k
      · rw [if_pos h2, if_pos (by omega)]
      · rw [if_neg h2, if_neg (by omega)]
theorem formK_rest (a : Atm) : ∀ k, k ≤ 4 → (formK a k).says = a.says ∧ (formK a k).pred = a.pred ∧ (formK a k).n = a.n
  | 0, _ => ⟨rfl, rfl, rfl⟩
  | k + 1, hk => by
    obtain ⟨h1, h2, h3⟩ := formK_rest a k (by omega)
    rw [← h1, ← h2, ← h3]
    have : k = 0 ∨ k = 1 ∨ k = 2 ∨ k = 3 := by omega
    show (Atm.setArg (formK a k) k (vt k)).says = _ ∧ (Atm.setArg (formK a k) k (vt k)).pred = _ ∧ (Atm.setArg (formK a k) k (vt k)).n = _
    generalize formK a k = b
    obtain rfl | rfl | rfl | rfl := this
    all_goals exact ⟨rfl, rfl, rfl⟩
theorem arg_over {a : Atm} {k : Nat} (h : 4 ≤ k) : a.arg k = a.arg 3 := by
  match k, h with
  | k + 4, _ => rfl
theorem formA_sz {a : Atm} (h : AtSz a) : AtSz (formA a) := by
  obtain ⟨h1, h2, h3⟩ := formK_rest a a.count a.count_le
  have h4 : ∀ k, k < 4 → ((formA a).arg k).name.size ≤ 2 := fun k hk => by
    rw [show (formA a).arg k = _ from formK_arg a a.count a.count_le k hk]
    split
    · exact Nat.le_refl _
    · exact Nat.zero_le _
  refine ⟨by rw [show (formA a).says = a.says from h1]; exact h.1, by rw [show (formA a).pred = a.pred from h2]; exact h.2.1, fun k => ?_⟩
  by_cases hk : k < 4
  · exact Nat.le_trans (h4 k hk) (by decide)
  · rw [arg_over (by omega)]
    exact Nat.le_trans (h4 3 (by decide)) (by decide)
theorem atomsF_sz {p : Pol} (h : Lt13 p) : ∀ a ∈ atomsF p, AtSz a := fun a ha => by
  unfold atomsF at ha
  obtain ⟨c, hc, ha⟩ := List.mem_flatMap.1 ha
  obtain ⟨q1, q2, _⟩ := cls_sz h c hc
  rcases List.mem_cons.1 ha with rfl | ha
  · exact q1
  · exact q2 a ha
theorem atomsF_len {p : Pol} (h : Lt13 p) : (atomsF p).length ≤ 1540 := by
  have h1 := atomsK_len (l := clausesF p) (fun c hc => (cls_sz h c hc).2.2) (clausesF p).length (Nat.le_refl _)
  have h2 : (clausesF p).length ≤ 140 := by
    have := clauses_len p
    have := h.rn
    have := h.gn
    omega
  unfold atomsK at h1
  rw [List.take_length] at h1
  show ((clausesF p).flatMap _).length ≤ _
  omega
def formsF (p : Pol) : List Atm := srtA (fdist (atomsF p))
end Go.Proofs.YtinbfakpjnnagaaDoor
namespace Go.Proofs.YtinbfakpjnnagaaDoor
open Go.RowKit Go.Vs Go.Vs.Ab
set_option maxRecDepth 100000
set_option maxHeartbeats 4000000
theorem consts3_does (a : Atm) : Does Tryd.prog 19 [atA a] (fun m => (.c (slC stC (pnames a false).isEmpty (pnames a false)), m)) := by
  have c1 := (names13_does a).shut
  refine does_of' Tryd.func19 rfl (by kernel_rfl) rfl Tryd.ntmps19 rfl rfl fun Q hQ => ?_
  repeat (first | refine tr_seq_k fun _ _ => ?_ | (refine tr_region ?_; simp only [go_sem, reduceCtorEq, Nat.reduceEqDiff, Nat.reduceLT, Nat.reduceLeDiff, Nat.reduceAdd, ↓reduceIte]) | (refine call_of (c1) ?_ ?_; (first | rfl | simp only [go_sem, reduceCtorEq, Nat.reduceEqDiff, Nat.reduceLT, Nat.reduceLeDiff, Nat.reduceAdd, Nat.reduceMul, Nat.reduceSub, Nat.reduceBEq, ↓reduceIte, shut_col]); simp only [go_sem]) | refine k_of (by assumption) ?_ | (refine tr_ret ?_; try simp only [ex_seq_ret, ex_block_ret]))
  refine (hQ _ _ [.c (slC stC (pnames a false).isEmpty (pnames a false))] ?_ (fun m => rfl)).2 <;> simp only [go_sem, reduceCtorEq, Nat.reduceEqDiff, ↓reduceIte, Tryd.f19]
  rfl
/-! ### the constants met -/
def csK (V : List ByteArray) (acc : List ByteArray) (k : Nat) : List ByteArray := (V.take k).foldl addS acc
theorem csK_next {V : List ByteArray} {acc : List ByteArray} {k : Nat} (h : k < V.length) : csK V acc (k + 1) = addS (csK V acc k) V[k] := by
  unfold csK
  rw [List.take_succ_eq_append_getElem h, List.foldl_append]
  rfl
def csL (L : List Atm) (i : Nat) : List ByteArray := (L.take i).foldl (fun acc a => (pnames a false).foldl addS acc) []
theorem csL_next {L : List Atm} {i : Nat} (h : i < L.length) : csL L (i + 1) = csK (pnames L[i] false) (csL L i) (pnames L[i] false).length := by
  unfold csL csK
  rw [List.take_succ_eq_append_getElem h, List.foldl_append, List.take_length]
  rfl
theorem addS_len (l : List ByteArray) (s : ByteArray) : (addS l s).length ≤ l.length + 1 := by
  unfold addS
  split <;> simp
theorem addS_nodup {l : List ByteArray} {s : ByteArray} (h : l.Nodup) : (addS l s).Nodup := by
  unfold addS
  split
  · exact h
  · rename_i hs
    rw [List.nodup_append]
    refine ⟨h, by simp, fun a ha b hb => ?_⟩
    rw [List.mem_singleton] at hb
    subst hb
    rintro rfl
    exact hs (hasB_iff.2 ha)
theorem addsF_mem : ∀ (V : List ByteArray) {acc : List ByteArray} {x : ByteArray}, x ∈ V.foldl addS acc ↔ x ∈ acc ∨ x ∈ V
  | [], acc, x => by simp
  | v :: V, acc, x => by
    rw [List.foldl_cons, addsF_mem V, addS_mem, List.mem_cons, or_assoc]
theorem addsF_nodup : ∀ (V : List ByteArray) {acc : List ByteArray}, acc.Nodup → (V.foldl addS acc).Nodup
  | [], acc, h => h
  | v :: V, acc, h => by rw [List.foldl_cons]; exact addsF_nodup V (addS_nodup h)
theorem addsF_len : ∀ (V : List ByteArray) {acc : List ByteArray}, (V.foldl addS acc).length ≤ acc.length + V.length
  | [], acc => by simp
  | v :: V, acc => by
    have h1 := addsF_len V (acc := addS acc v)
    have h2 := addS_len acc v
    rw [List.foldl_cons, List.length_cons]
    omega
theorem csF_mem : ∀ (L : List Atm) {acc : List ByteArray} {x : ByteArray}, x ∈ L.foldl (fun acc a => (pnames a false).foldl addS acc) acc ↔ x ∈ acc ∨ ∃ a ∈ L, x ∈ pnames a false
  | [], acc, x => by simp
  | a :: L, acc, x => by
    rw [List.foldl_cons, csF_mem L, addsF_mem, or_assoc]
    simp
theorem csF_nodup : ∀ (L : List Atm) {acc : List ByteArray}, acc.Nodup → (L.foldl (fun acc a => (pnames a false).foldl addS acc) acc).Nodup
  | [], acc, h => h
  | a :: L, acc, h => by rw [List.foldl_cons]; exact csF_nodup L (addsF_nodup _ h)
theorem csF_len : ∀ (L : List Atm) {acc : List ByteArray}, (L.foldl (fun acc a => (pnames a false).foldl addS acc) acc).length ≤ acc.length + 4 * L.length
  | [], acc => by simp
  | a :: L, acc => by
    have h1 := csF_len L (acc := (pnames a false).foldl addS acc)
    have h2 := addsF_len (pnames a false) (acc := acc)
    have h3 : (pnames a false).length ≤ 4 := Nat.le_trans (pnamesC_len a a.count) a.count_le
    rw [List.foldl_cons, List.length_cons]
    omega
def csAll (L : List Atm) : List ByteArray := L.foldl (fun acc a => (pnames a false).foldl addS acc) []
theorem csL_all (L : List Atm) : csL L L.length = csAll L := by unfold csL csAll; rw [List.take_length]
theorem mem_csAll {L : List Atm} {x : ByteArray} : x ∈ csAll L ↔ ∃ a ∈ L, x ∈ pnames a false := by
  unfold csAll
  rw [csF_mem]
  simp
theorem csAll_sz {L : List Atm} (h : ∀ a ∈ L, AtSz a) : ∀ s ∈ csAll L, s.size ≤ 1000000 := fun s hs => by
  obtain ⟨a, ha, hx⟩ := mem_csAll.1 hs
  obtain ⟨i, _, _, rfl⟩ := (mem_pnamesC a.count_le).1 hx
  exact Nat.le_trans ((h a ha).2.2 i) (by decide)
def constsF (p : Pol) : List ByteArray := sortB (csAll (atomsF p))
end Go.Proofs.YtinbfakpjnnagaaDoor
namespace Go.Vs.Ab
open Go.RowKit
variable {P : Program} {X : Mem} {W0 w w' : World} {m : Mm} {nt : Nat}
theorem sets_size (off : Nat) : ∀ (l : List (Value × Nat)) (cs : Array Value), (l.foldl (fun (cs : Array Value) (p : Value × Nat) => cs.setIfInBounds (off + p.2) p.1) cs).size = cs.size
  | [], _ => rfl
  | x :: l, cs => by rw [List.foldl_cons, sets_size off l]; simp
theorem fill_size {place : Nat → Option (Nat × Nat)} : ∀ {qs : List (Nat × Value)} {xs ys : Array Value}, Instr.fill place xs qs = some ys → ys.size = xs.size
  | [], xs, ys, h => by
    simp only [Instr.fill, Option.some.injEq] at h
    rw [h]
  | (i, v) :: r, xs, ys, h => by
    unfold Instr.fill at h
    split at h
    · cases h
    · split at h
      · cases h
      · rw [fill_size h, ← Array.foldl_toList]
        exact sets_size _ _ _
def eSize (P : Program) (t : TypeId) : Option Nat := match P.underlying t with
  | some (.slice e) => tsz P e
  | _ => none
theorem buildSlice_run {t : TypeId} {len k : Nat} {ps : List (Nat × AV)} {qs : Array (Nat × Value)} {cs : List CV} (h : aBuildSlice P t len ps = some cs) (hk : eSize P t = some k) (h0 : 0 < len * k) (hp : Pairs X ps qs.toList) :
    ∃ (ys : Array Value) (e : TypeId), (Instr.buildSlice t len qs).run P w = .ok (.slice (some ⟨w.heap.size, 0, none⟩) len len) (w.alloc (.cells ys e)) ∧ RepCs X.cell cs ys.toList ∧ ys.size = len * k := by
  unfold aBuildSlice at h
  unfold eSize at hk
  split at h
  · rename_i e ht
    rw [ht] at hk
    simp only at hk
    split at h
    · rename_i sz zs hsz hzs
      rw [hk] at hsz
      injection hsz with hsz
      subst hsz
      obtain ⟨i, z, hi, hz, hzs⟩ := tzero_spec hzs
      obtain ⟨i', hi', e0⟩ := tsz_spec hk
      rw [hi] at hi'
      injection hi' with hi'
      subst hi'
      subst e0
      split at h
      · rename_i hc
        simp only [Bool.and_eq_true, Nat.ble_eq, Nat.blt_eq] at hc
        obtain ⟨⟨h1, h2⟩, h3⟩ := hc
        have hzr := cvsOf_rep (C := X.cell) hzs
        have hzl : z.cells.size = zs.length := by have := hzr.1; simp at this; exact this.symm
        have hr0 : RepCs X.cell (zeroCells len i.size zs) ((Array.range (len * i.size)).map (z.cells[· % z.cells.size]!)).toList := by
          refine ⟨by simp [zeroCells], fun j c x hc hx => ?_⟩
          simp only [zeroCells, List.getElem?_map, Option.map_eq_some_iff] at hc
          obtain ⟨k, hk, rfl⟩ := hc
          have hj := (List.getElem?_eq_some_iff.1 hk).1
          simp only [List.getElem?_range (by simpa using hj), Option.some.injEq] at hk
          subst hk
          simp only [List.length_range] at hj
          simp only [Array.toList_map, Array.toList_range, List.getElem?_map, List.getElem?_range hj, Option.map_some, Option.some.injEq] at hx
          subst hx
          have hm : j % zs.length < zs.length := Nat.mod_lt _ h1
          rw [hzl]
          refine hzr.2 (j % zs.length) _ _ ?_ ?_
          · rw [List.getD_eq_getElem?_getD, List.getElem?_eq_getElem hm]; rfl
          · rw [Array.getElem?_toList, getElem!_pos _ _ (by omega), Array.getElem?_eq_getElem (by omega)]
        obtain ⟨ys, h4, h5⟩ := aFill_ok (xs := (Array.range (len * i.size)).map (z.cells[· % z.cells.size]!)) h hp hr0
        have h2' : ¬ (16777216 < len * i.size) := by omega
        have h3' : len * i.size ≠ 0 := by omega
        have hys : ys.size = len * i.size := by
          have := fill_size h4
          simpa using this
        refine ⟨ys, e, ?_, h5, hys⟩
        have h3a : len ≠ 0 := fun e => by subst e; simp at h3
        have h3b : i.size ≠ 0 := fun e => by rw [e] at h3; simp at h3
        simp [Instr.buildSlice, run_under ht, run_size hi, h2', zeroValue, typeInfo, hi, hz, newRow]
        rw [if_neg h3', h4]
        simp
      · rename_i hc
        split at h
        · rename_i hc2
          simp only [Bool.and_eq_true] at hc2
          have := Nat.eq_of_beq_eq_true hc2.1
          subst this
          omega
        · cases h
    · cases h
  · cases h
def LocW (P : Program) (nt : Nat) (fr : Fr) (m : Mm) (o : Oper) (K : Fr → Mm → Prop) : Prop :=
  match o.op, o.dst, o.guard with
  | .buildSlice t len ps, some d, none => match oprps fr ps.toList, eSize P t with
    | some cs, some k => (Nat.ble len maxLen = true ∧ Nat.blt 0 (len * k) = true ∧ Nat.blt d nt = true) ∧ (match aBuildSlice P t len cs with
      | some ds => K (ins fr d (.lsl m.hp.length 0 len k)) ⟨m.hp ++ [⟨false, ds.map .c⟩], m.hw⟩
      | none => False)
    | _, _ => False
  | _, _, _ => False
theorem locW_wp {fr : Fr} {a : Act} {ops : Array Oper} {i : Nat} {o : Oper} (ho : ops[i]? = some o) (F : FR X nt fr a) (M : MR X W0 m w) {KK : Fr → Mm → Prop} (h : LocW P nt fr m o KK)
    {K : Act → World → Prop} {Q : Exit → Act → World → Prop} (hK : ∀ fr' m' a' w' X', KK fr' m' → X.Le W0.heap.size X' → FR X' nt fr' a' → MR X' W0 m' w' → K a' w') : wpOp P ops Q i K a w := by
  obtain ⟨dst, op, type, pos, after, guard⟩ := o
  unfold LocW at h
  simp only at h
  split at h
  · rename_i t len ps d
    split at h
    · rename_i cs k hcs hk
      obtain ⟨⟨h1, h2, h3⟩, h⟩ := h
      split at h
      · rename_i ds hds
        have hp := oprps_rep F hcs
        obtain ⟨ys, e, g1, g2, g3⟩ := buildSlice_run (P := P) (w := w) (qs := ps.map fun (i, x) => (i, a.eval x)) hds hk (by simpa using h2) (by simpa using hp)
        have M1 := M.grow (below_alloc w (.cells ys e))
        have hrp : Reps X (ds.map .c) (ys.toList.take (ds.map AV.c).length) := by
          rw [List.length_map, g2.1, List.take_length]
          refine ⟨by rw [List.length_map]; exact g2.1, fun i c x q1 q2 => ?_⟩
          rw [List.getElem?_map, Option.map_eq_some_iff] at q1
          obtain ⟨c0, q1, rfl⟩ := q1
          exact .c (g2.2 i c0 x q1 q2)
        have hroom : X.room w.heap.size = 0 := by
          rcases Nat.eq_zero_or_pos (X.room w.heap.size) with h0 | h0
          · exact h0
          · obtain ⟨ar, tt, zz, q1, _⟩ := M.rm _ h0
            have := (Array.getElem?_eq_some_iff.1 q1).1
            omega
        obtain ⟨A, hle⟩ := M1.adopt (β := w.heap.size) (R := ys.size) M.below.size M.newCell (fun i hi => by have := (M.locBlock hi).1; omega) (fun k S hS e => by have := (M.tokBlock hS).1; omega) (halloc_new w _) (by rw [List.length_map, g2.1]; simp) hrp (by rw [hroom]; exact Nat.zero_le _) (Nat.le_refl _)
        unfold wpOp
        simp only [ho]
        rw [if_pos (aWanted_ok F (show aWanted ops fr ⟨some d, .buildSlice t len ps, type, pos, after, none⟩ = some true from rfl))]
        refine Or.inl ?_
        unfold Oper.wp
        have he : (execOp a.eval ⟨some d, .buildSlice t len ps, type, pos, after, none⟩).run P w = .ok (.value (.slice (some ⟨w.heap.size, 0, none⟩) len len)) (w.alloc (.cells ys e)) := by simp [execOp, g1]
        rw [he]
        have F1 := (F.mono hle).ins (d := d) (c := .lsl m.hp.length 0 len k) (x := .slice (some ⟨w.heap.size, 0, none⟩) len len) (by simpa using h3) (.lsl (by simp [Mem.adopt]) (fun _ => by rw [Nat.zero_mul]) (Nat.le_refl _) (by simpa using h1) (by simp only [Mem.adopt, if_true]; omega))
        exact hK _ _ _ _ _ h hle F1 A
      · exact h.elim
    · exact h.elim
  · exact h.elim
def oneA : AV → Bool
  | .c _ => true
  | .ptr _ _ => true
  | .lsl _ _ _ _ => true
  | .own _ _ _ => true
  | .mapp _ => true
  | _ => false
theorem oneA_ok {c : AV} {x : Value} (h : oneA c = true) (hr : Rep X c x) : x.oneCell' = true := by
  cases hr with
  | c h => exact h.one
  | ptr => rfl
  | lsl => rfl
  | own => rfl
  | mapp => rfl
  | agg => cases h
  | tup => cases h
  | cptr => cases h
  | fn => cases h
  | ifc => cases h
  | strc => cases h
def oneAs : List AV → Bool
  | [] => true
  | c :: r => oneA c && oneAs r
theorem oneAs_get : ∀ {l : List AV}, oneAs l = true → ∀ (i : Nat) (c : AV), l[i]? = some c → oneA c = true
  | [], _, i, c, h => by simp at h
  | d :: r, h, i, c, hc => by
    simp only [oneAs, Bool.and_eq_true] at h
    cases i with
    | zero => simp at hc; subst hc; exact h.1
    | succ i => exact oneAs_get h.2 i c (by simpa using hc)
def LdW (P : Program) (nt : Nat) (fr : Fr) (m : Mm) (o : Oper) (K : Fr → Mm → Prop) : Prop :=
  match o.op, o.dst, o.guard with
  | .load t x, some d, none => match opd fr x, P.underlying t, tsz P t with
    | some (.ptr b off), some ds, some i => match m.hp[b]? with
      | some blk => (plainB blk.cs = true ∧ aggD ds = true ∧ Nat.ble (off + i) blk.cs.length = true ∧ Nat.blt d nt = true ∧ oneAs ((blk.cs.drop off).take i) = true) ∧ K (ins fr d (.strc ((blk.cs.drop off).take i))) m
      | none => False
    | _, _, _ => False
  | _, _, _ => False
theorem ldW_wp {fr : Fr} {a : Act} {ops : Array Oper} {i : Nat} {o : Oper} (ho : ops[i]? = some o) (F : FR X nt fr a) (M : MR X W0 m w) {KK : Fr → Mm → Prop} (h : LdW P nt fr m o KK)
    {K : Act → World → Prop} {Q : Exit → Act → World → Prop} (hK : ∀ fr' m' a' w' X', KK fr' m' → X.Le W0.heap.size X' → FR X' nt fr' a' → MR X' W0 m' w' → K a' w') : wpOp P ops Q i K a w := by
  obtain ⟨dst, op, type, pos, after, guard⟩ := o
  unfold LdW at h
  simp only at h
  split at h
  · rename_i t x d
    split at h
    · rename_i b off ds k hx hd hi
      split at h
      · rename_i blk hblk
        obtain ⟨⟨hpl, ha, hle, hdn, hone⟩, h⟩ := h
        obtain ⟨i0, hi2, rfl⟩ := tsz_spec hi
        have hr := opd_rep F hx
        obtain ⟨β', h1, _, _, hB⟩ := M.locs b blk hblk
        obtain ⟨t', arr, h2, hal, h3, _⟩ := hB.plain hpl
        generalize hV : a.eval x = V at hr
        cases hr with
        | ptr hb =>
          rename_i β
          rw [hb] at h1
          injection h1 with h1
          subst h1
          simp only [Nat.ble_eq] at hle
          have cellA : ∀ j y, (arr.toList.take blk.cs.length)[j]? = some y → w.cell? ⟨β, j, none⟩ = some y := fun j y hy => by
            rw [List.getElem?_take] at hy
            split at hy
            · exact cell_of_heap h2 (by simpa using hy)
            · cases hy
          generalize arr.toList.take blk.cs.length = ys at *
          have hl : ((ys.drop off).take i0.size).length = i0.size := by
            rw [List.length_take, List.length_drop, ← h3.1]
            omega
          have h5 := (h3.drop off).take i0.size
          have hrep : Rep X (.strc ((blk.cs.drop off).take i0.size)) (.agg ((ys.drop off).take i0.size).toArray) := by
            refine .strc (by simpa using h5.1) (by simpa using h5.2) (fun u hu => ?_)
            obtain ⟨j, hj, rfl⟩ := List.mem_iff_getElem.1 hu
            simp only at hj ⊢
            have hj2 : j < ((blk.cs.drop off).take i0.size).length := by rw [h5.1]; simpa using hj
            exact oneA_ok (oneAs_get hone j _ (List.getElem?_eq_getElem hj2)) (h5.2 j _ _ (List.getElem?_eq_getElem hj2) (List.getElem?_eq_getElem hj))
          have hrun := load_agg (P := P) (w := w) (b := β) (o := off) hd hi2 ha hl (fun j y hy => by
            rw [List.getElem?_take] at hy
            split at hy
            · exact cellA _ y (by simpa using hy)
            · cases hy)
          unfold wpOp
          simp only [ho]
          rw [if_pos (aWanted_ok F (show aWanted ops fr ⟨some d, .load t x, type, pos, after, none⟩ = some true from rfl))]
          refine Or.inl ?_
          unfold Oper.wp
          have he : (execOp a.eval ⟨some d, .load t x, type, pos, after, none⟩).run P w = .ok (.value (.agg ((ys.drop off).take i0.size).toArray)) w := by simp [execOp, hV, hrun]
          rw [he]
          exact hK _ _ _ _ X h (Mem.Le.refl _ _) (F.ins (by simpa using hdn) hrep) M
      · exact h.elim
    · exact h.elim
  · exact h.elim
inductive Sp where
  | n
  | l
  | s
def SeqL (P : Program) (nt : Nat) (ops : Array Oper) : List Oper → List Sp → Fr → Mm → (Fr → Mm → Prop) → Prop
  | [], _, fr, m, Q => Q fr m
  | o :: r, [], fr, m, Q => StepW P nt ops o fr m fun _ fr' m' => SeqL P nt ops r [] fr' m' Q
  | o :: r, .n :: bs, fr, m, Q => StepW P nt ops o fr m fun _ fr' m' => SeqL P nt ops r bs fr' m' Q
  | o :: r, .l :: bs, fr, m, Q => LocW P nt fr m o fun fr' m' => SeqL P nt ops r bs fr' m' Q
  | o :: r, .s :: bs, fr, m, Q => LdW P nt fr m o fun fr' m' => SeqL P nt ops r bs fr' m' Q
theorem seqL_wp {ops : Array Oper} {Q : Exit → Act → World → Prop} {R : Fr → Mm → Prop} : ∀ (l : List Oper) (bs : List Sp) (k : Nat) {X : Mem} {w : World} {m : Mm} {fr : Fr} {a : Act}, (∀ j, l[j]? = ops[k + j]?) → FR X nt fr a → MR X W0 m w →
    SeqL P nt ops l bs fr m R → (∀ fr' m' a' w' X', R fr' m' → X.Le W0.heap.size X' → FR X' nt fr' a' → MR X' W0 m' w' → Q .normal a' w') → wpOps P ops Q (List.range' k l.length) a w
  | [], bs, k, X, w, m, fr, a, _, F, M, h, hQ => by
    unfold SeqL at h
    exact hQ _ _ _ _ X h (Mem.Le.refl _ _) F M
  | o :: r, bs, k, X, w, m, fr, a, hl, F, M, h, hQ => by
    rw [List.length_cons, List.range'_succ, wpOps_cons]
    have hl' : ∀ j, r[j]? = ops[k + 1 + j]? := fun j => by have := hl (j + 1); simpa [Nat.add_assoc, Nat.add_comm 1 j] using this
    match bs, h with
    | [], h =>
      refine stepW_wp (by simpa using (hl 0).symm) F M h fun kd fr' m' a' w' X' k1 k2 k3 k4 _ => ?_
      exact seqL_wp r [] (k + 1) hl' k3 k4 k1 fun fr2 m2 a2 w2 X2 l0 l1 l2 l3 => hQ fr2 m2 a2 w2 X2 l0 (k2.trans l1) l2 l3
    | .n :: bs, h =>
      refine stepW_wp (by simpa using (hl 0).symm) F M h fun kd fr' m' a' w' X' k1 k2 k3 k4 _ => ?_
      exact seqL_wp r bs (k + 1) hl' k3 k4 k1 fun fr2 m2 a2 w2 X2 l0 l1 l2 l3 => hQ fr2 m2 a2 w2 X2 l0 (k2.trans l1) l2 l3
    | .l :: bs, h =>
      refine locW_wp (by simpa using (hl 0).symm) F M h fun fr' m' a' w' X' k1 k2 k3 k4 => ?_
      exact seqL_wp r bs (k + 1) hl' k3 k4 k1 fun fr2 m2 a2 w2 X2 l0 l1 l2 l3 => hQ fr2 m2 a2 w2 X2 l0 (k2.trans l1) l2 l3
    | .s :: bs, h =>
      refine ldW_wp (by simpa using (hl 0).symm) F M h fun fr' m' a' w' X' k1 k2 k3 k4 => ?_
      exact seqL_wp r bs (k + 1) hl' k3 k4 k1 fun fr2 m2 a2 w2 X2 l0 l1 l2 l3 => hQ fr2 m2 a2 w2 X2 l0 (k2.trans l1) l2 l3
theorem tr_regionL {R : MRel} [hR : RelOk R] {fr : Fr} {Q : Ex → Fr → Mm → Prop} {id : Nat} {l : List Oper} (bs : List Sp) (h : SeqL P nt l.toArray l bs fr m (Q .nrm)) : Tr R P nt (.region id l.toArray false) fr m Q := fun X W0 w ac F M => by
  refine wp_region ?_
  have := seqL_wp (ops := l.toArray) (Q := fun e a' w' => ∃ ex fr' m' X', e = Ex.out ex ∧ Q ex fr' m' ∧ R W0.heap.size X X' ∧ FR X' nt fr' a' ∧ MR X' W0 m' w') l bs 0 (by simp) F M h fun fr' m' a' w' X' k0 k1 k2 k3 => ⟨.nrm, fr', m', X', rfl, k0, hR.of k1, k2, k3⟩
  rw [List.range_eq_range']
  simpa using this
theorem ldS_ok {t : TypeId} {b off i : Nat} {ds : TypeDesc} {blk : Blk} {q : Value} (M : MR X W0 m w) (hblk : m.hp[b]? = some blk) (hd : P.underlying t = some ds) (hi : tsz P t = some i) (hc : plainB blk.cs = true ∧ aggD ds = true ∧ Nat.ble (off + i) blk.cs.length = true ∧ oneAs ((blk.cs.drop off).take i) = true) (hr : Rep X (.ptr b off) q) :
    ∃ V, Rep X (.strc ((blk.cs.drop off).take i)) V ∧ (Instr.loadAt t q).run P w = .ok V w ∧ ∃ a, q = .pointer (some a) := by
  obtain ⟨hpl, ha, hle, hone⟩ := hc
  obtain ⟨i0, hi2, rfl⟩ := tsz_spec hi
  obtain ⟨β', h1, _, _, hB⟩ := M.locs b blk hblk
  obtain ⟨t', arr, h2, hal, h3, _⟩ := hB.plain hpl
  cases hr with
  | ptr hb =>
    rename_i β
    rw [hb] at h1
    injection h1 with h1
    subst h1
    simp only [Nat.ble_eq] at hle
    have cellA : ∀ j y, (arr.toList.take blk.cs.length)[j]? = some y → w.cell? ⟨β, j, none⟩ = some y := fun j y hy => by
      rw [List.getElem?_take] at hy
      split at hy
      · exact cell_of_heap h2 (by simpa using hy)
      · cases hy
    generalize arr.toList.take blk.cs.length = ys at *
    have hl : ((ys.drop off).take i0.size).length = i0.size := by
      rw [List.length_take, List.length_drop, ← h3.1]
      omega
    have h5 := (h3.drop off).take i0.size
    refine ⟨.agg ((ys.drop off).take i0.size).toArray, .strc (by simpa using h5.1) (by simpa using h5.2) (fun u hu => ?_), load_agg (P := P) (w := w) (b := β) (o := off) hd hi2 ha hl (fun j y hy => ?_), _, rfl⟩
    · obtain ⟨j, hj, rfl⟩ := List.mem_iff_getElem.1 hu
      simp only at hj ⊢
      have hj2 : j < ((blk.cs.drop off).take i0.size).length := by rw [h5.1]; simpa using hj
      exact oneA_ok (oneAs_get hone j _ (List.getElem?_eq_getElem hj2)) (h5.2 j _ _ (List.getElem?_eq_getElem hj2) (List.getElem?_eq_getElem hj))
    · rw [List.getElem?_take] at hy
      split at hy
      · exact cellA _ y (by simpa using hy)
      · cases hy
theorem givesW_ofS {F : FuncId} {fn : Func} {c : Code} {s : Nat} {t : TypeId} (hF : P.funcs[F]? = some fn) (hb : fn.body = some c) (hcb : callableB fn = true) {args : List AV} {r : AV} {m m' : Mm} {nt : Nat} (hnt : fn.ntmps = nt) (hle : Nat.ble args.length nt = true) (hrs : fn.results.toList = [.cell s t])
    {ds : TypeDesc} {i : Nat} (hd : P.underlying t = some ds) (hi : tsz P t = some i)
    (h : ∀ Q : Ex → Fr → Mm → Prop, (∀ fr m1 b off blk, find fr s = some (.ptr b off) → m1.hp[b]? = some blk → (plainB blk.cs = true ∧ aggD ds = true ∧ Nat.ble (off + i) blk.cs.length = true ∧ oneAs ((blk.cs.drop off).take i) = true) → .strc ((blk.cs.drop off).take i) = r → m1 = m' → Q .nrm fr m1 ∧ Q .ret fr m1) → Tr fle P nt c (initFr 0 args) m Q) : GivesW P F args m r m' := by
  subst hnt
  refine ⟨callable_of hF hcb, fun X W0 w vs M hargs => ?_⟩
  refine (calls_of_wp hF hb (R := fun e w' => ∃ v X', e = .returned v ∧ X.Le W0.heap.size X' ∧ Rep X' r v ∧ MR X' W0 m' w') (wp_mono (h (fun e fr m1 => (∀ id, e ≠ .exit id) ∧ m1 = m' ∧ ∃ b off blk, find fr s = some (.ptr b off) ∧ m1.hp[b]? = some blk ∧ (plainB blk.cs = true ∧ aggD ds = true ∧ Nat.ble (off + i) blk.cs.length = true ∧ oneAs ((blk.cs.drop off).take i) = true) ∧ .strc ((blk.cs.drop off).take i) = r)
    (fun fr m1 b off blk g1 g2 g3 g4 g5 => ⟨⟨(fun _ h => by cases h), g5, b, off, blk, g1, g2, g3, g4⟩, ⟨(fun _ h => by cases h), g5, b, off, blk, g1, g2, g3, g4⟩⟩) X W0 w _ (FR.init hargs (by simpa using hle)) M) ?_))
  rintro _ a' w' ⟨ex, fr', m1, X1, rfl, ⟨hne, rfl, b, off, blk, g1, g2, g3, rfl⟩, k1, k2, k3⟩
  obtain ⟨x, q1, q2⟩ := k2.slot s _ g1
  obtain ⟨V, q3, q4, ad, rfl⟩ := ldS_ok k3 g2 hd hi g3 q2
  have hrun : ([ResultVar.cell s t].mapM (resM a'.tmps)).run P w' = .ok [V] w' := by
    have e1 : (resM a'.tmps (.cell s t)).run P w' = .ok V w' := by
      simpa [resM, Array.getD_eq_getD_getElem?, q1, asAddr, Instr.loadAt, Instr.sureAddr] using q4
    rw [List.mapM_cons]
    simp only [Sem.run_bind, e1, Result.andThen_ok, List.mapM_nil, Sem.run_pure]
  have : a'.defers = [] ∧ ∃ v, (results fn a'.tmps).run P w' = .ok v w' ∧ ∃ v2 X', Ending.returned v = .returned v2 ∧ X.Le W0.heap.size X' ∧ Rep X' (.strc ((blk.cs.drop off).take i)) v2 ∧ MR X' W0 m1 w' := by
    refine ⟨k2.defers, _, results_run (by rw [hrs]; exact hrun), _, X1, rfl, k1, ?_, k3⟩
    exact q3
  cases ex with
  | nrm => exact this
  | ret => exact this
  | exit id => exact absurd rfl (hne id)
attribute [go_sem] SeqL LocW LdW oneA oneAs
end Go.Vs.Ab
namespace Go.Vs.Ab
open Go.RowKit
variable {P : Program} {X : Mem} {W0 w w' : World} {m : Mm}
theorem lows_all {i j : Nat} : ∀ {cs : List AV}, (∀ (k : Nat) (c : AV), cs[k]? = some c → low i j c = true) → lows i j cs = true
  | [], _ => rfl
  | c :: r, h => by
    simp only [lows, Bool.and_eq_true]
    exact ⟨h 0 c rfl, lows_all fun k d hd => h (k + 1) d (by simpa using hd)⟩
theorem lowB_all {i j : Nat} : ∀ {bs : List Blk}, (∀ (k : Nat) (b : Blk), bs[k]? = some b → lows i j b.cs = true) → lowB i j bs = true
  | [], _ => rfl
  | c :: r, h => by
    simp only [lowB, Bool.and_eq_true]
    exact ⟨h 0 c rfl, lowB_all fun k d hd => h (k + 1) d (by simpa using hd)⟩
theorem get_pair {T U : Type} {vs : List T} {xs : List U} (h : vs.length = xs.length) {k : Nat} {c : T} (hc : vs[k]? = some c) : ∃ x, xs[k]? = some x := by
  have := (List.getElem?_eq_some_iff.1 hc).1
  exact ⟨xs[k]'(by omega), List.getElem?_eq_getElem _⟩
theorem Rep.lowed (M : MR X W0 m w) {c : AV} {x : Value} (h : Rep X c x) : Ab.low m.hp.length m.hw.length c = true := by
  induction h with
  | c h => rfl
  | agg h => rfl
  | tup hl _ ih =>
    simp only [Ab.low]
    refine lows_all fun k c hc => ?_
    obtain ⟨x, hx⟩ := get_pair hl hc
    exact ih k c x hc hx
  | own h hn hc hx ht =>
    obtain ⟨T, h1, _⟩ := ht
    have := M.odom _ T h1
    simp only [Ab.low, Nat.blt_eq]
    exact this
  | ptr h =>
    have := M.ldom _ _ h
    simp only [Ab.low, Nat.blt_eq]
    exact this
  | cptr h hx => rfl
  | fn h1 _ h3 _ ih1 ih2 =>
    simp only [Ab.low, Bool.and_eq_true]
    refine ⟨lows_all fun k c hc => ?_, lows_all fun k c hc => ?_⟩
    · obtain ⟨x, hx⟩ := get_pair h1 hc
      exact ih1 k c x hc hx
    · obtain ⟨x, hx⟩ := get_pair h3 hc
      exact ih2 k c x hc hx
  | lsl h ho hn hc hr =>
    have := M.ldom _ _ h
    simp only [Ab.low, Nat.blt_eq]
    exact this
  | mapp h =>
    have := M.ldom _ _ h
    simp only [Ab.low, Nat.blt_eq]
    exact this
  | ifc _ ih => simpa [Ab.low] using ih
  | strc hl _ h1 ih =>
    simp only [Ab.low]
    refine lows_all fun k c hc => ?_
    obtain ⟨x, hx⟩ := get_pair hl hc
    exact ih k c x hc hx
theorem MR.lowed (M : MR X W0 m w) : Ab.lowB m.hp.length m.hw.length m.hp = true := by
  refine lowB_all fun k b hb => ?_
  obtain ⟨β, _, _, _, hB⟩ := M.locs k b hb
  cases hB with
  | dead h => rw [h]; rfl
  | ent h => rw [h]; rfl
  | bld h hw hv hf hn =>
    rw [h]
    simp only [lows, low, Bool.and_true]
    exact hv.lowed M
  | byt h => rw [h]; rfl
  | cells hw hl hr hz hf =>
    refine lows_all fun k c hc => ?_
    obtain ⟨x, hx⟩ := get_pair hr.1 hc
    exact (hr.2 k c x hc hx).lowed M
theorem tr_low {R : MRel} [hR : RelOk R] {nt : Nat} {c : Code} {fr : Fr} {Q : Ex → Fr → Mm → Prop} (h : lowB m.hp.length m.hw.length m.hp = true → Tr R P nt c fr m Q) : Tr R P nt c fr m Q := fun X W0 w a F M => h M.lowed X W0 w a F M
theorem GivesW.trim {F : FuncId} {args : List AV} {r r' : AV} {m1 m2 : Mm} (h : GivesW P F args m r m1) (hk : Keep m2 m1) (hl : lowB m.hp.length m.hw.length m.hp = true → lowB m2.hp.length m2.hw.length m2.hp = true)
    (hp : m.hp.length ≤ m2.hp.length) (hq : m.hw.length ≤ m2.hw.length) (hr : ∀ (X : Mem) (i j : Nat) (v : Value), Rep X r v → Rep (X.cut i j) r' v) : GivesW P F args m r' m2 := by
  refine ⟨h.1, fun X W0 w vs M ha => (h.2 X W0 w vs M ha).mono ?_⟩
  rintro _ w' ⟨v, X', rfl, h1, h2, h3⟩
  refine ⟨v, X'.cut m2.hp.length m2.hw.length, rfl, ⟨h1.cell, h1.old, fun i β hi => ?_, fun k T hT => ?_, h1.room⟩, hr _ _ _ _ h2, h3.cut hk (hl M.lowed)⟩
  · have := M.ldom i β hi
    simp only [Mem.cut]
    rw [if_pos (by omega)]
    exact h1.loc i β hi
  · have := M.odom k T hT
    obtain ⟨T', g1, g2⟩ := h1.own k T hT
    refine ⟨T', ?_, g2⟩
    simp only [Mem.cut]
    rw [if_pos (by omega)]
    exact g1
theorem cut_shut {r r' : AV} (hs : Ab.shut r = some r') (X : Mem) (i j : Nat) (v : Value) (h : Rep X r v) : Rep (X.cut i j) r' v := shut_rep (X := X) (Y := X.cut i j) rfl hs h
/-! ### one block among others -/
theorem lowB_cat {i j : Nat} : ∀ {a b : List Blk}, lowB i j (a ++ b) = (lowB i j a && lowB i j b)
  | [], b => by simp [lowB]
  | x :: r, b => by simp only [List.cons_append, lowB, lowB_cat (a := r) (b := b), Bool.and_assoc]
end Go.Vs.Ab
namespace Go.Proofs.YtinbfakpjnnagaaDoor
open Go.RowKit Go.Vs Go.Vs.Ab Go.Vs.Sm
set_option maxRecDepth 100000
set_option maxHeartbeats 4000000
def poW (b : Nat) (p : Pol) : List AV := [.c (slC stC p.e1 p.prin), .c (slC prC p.e2 p.preds), .c (slC clC p.e3 p.clears), iA p.quota, iA p.budget, .lsl b 0 p.rules.length 12, .c (slC grC p.e5 p.grants)]
abbrev rulB (p : Pol) : Blk := ⟨false, blC ruC p.rules⟩
variable {A : List Blk} {b : Nat}
theorem plain_sl {T : Type} {enc : T → List CV} {ex : Bool} {l : List T} : plain1 (.c (slC enc ex l)) = true := rfl
theorem gA0 (x : Blk) (r : List Blk) : (A ++ x :: r)[A.length]? = some x := by simp
theorem gA1 (n : Nat) (r : List Blk) : (A ++ r)[A.length + n]? = r[n]? := by
  rw [List.getElem?_append_right (by omega), Nat.add_sub_cancel_left]
theorem gS1 (n : Nat) (z : Blk) (r : List Blk) : (A ++ r).set (A.length + n) z = A ++ r.set n z := by
  rw [List.set_append, if_neg (by omega), Nat.add_sub_cancel_left]
theorem gAb {p : Pol} (h : A[b]? = some (rulB p)) (r : List Blk) : (A ++ r)[b]? = some (rulB p) := by
  rw [List.getElem?_append_left (List.getElem?_eq_some_iff.1 h).1]
  exact h
theorem ixLR {l : List Rul} {k : Nat} (h : k < l.length) : aIndexL Tryd.prog 26 (.lsl b 0 l.length 12) (.c (.v (.int .i64 (k : Int)))) = some (.ptr b (k * 12)) := by
  have := idxL (P := Tryd.prog) Tryd.underlying26 sz42 (by decide) (b := b) (lo := 0) (ik := .i64) h
  rwa [Nat.zero_add] at this
theorem drLR {l : List Rul} {k : Nat} (h : k < l.length) : List.drop (k * 12) (blC ruC l) = (ruC l[k]).map AV.c ++ blC ruC (l.drop (k + 1)) := drop_blC (enc := ruC) (size := 12) (fun _ => rfl) h
theorem fitLR {l : List Rul} {k : Nat} (h : k < l.length) : (k * 12 + 12 ≤ (blC ruC l).length) = True := eq_true (fit_blC (enc := ruC) (size := 12) (fun _ => rfl) h)
theorem clausesW {p : Pol} (hb : A[b]? = some (rulB p)) (h1 : p.rules.length ≤ 100000) (h2 : p.grants.length ≤ 100000) (h3 : ∀ r ∈ p.rules, r.body.length ≤ 100000) (h4 : ∀ g ∈ p.grants, g.body.length ≤ 100000) :
    GivesW Tryd.prog 6 [.strc (poW b p)] ⟨A, []⟩ (colA clsC 0 (clausesF p)) ⟨A ++ [⟨false, poW b p⟩], colH 45 12 (clausesF p)⟩ := by
  have g := fun r => gAb hb r
  have bl : b < A.length := (List.getElem?_eq_some_iff.1 hb).1
  refine givesW_of' Tryd.func6 rfl (by kernel_rfl) Tryd.ntmps6 rfl rfl fun Q hQ => ?_
  repeat (first | refine tr_seq_k fun _ _ => ?_ | (refine tr_region ?_; simp only [go_sem, List.getElem?_toArray, reduceCtorEq, Nat.reduceEqDiff, Nat.reduceLT, ↓reduceIte, gA0, poW]) | refine k_of (by assumption) ?_ | refine tr_block ?_)
  refine tr_low fun hW => ?_
  have hW2 := fun j => lowB_up (Nat.le_refl _) (Nat.zero_le j) hW
  refine tr_loop_k (σ := Nat) (fun k => [(1, .ptr A.length 0), (3, colA clsC 0 (clsT p k)), (9, .lsl b 0 p.rules.length 12), (10, iA p.rules.length), (11, iA k)]) (fun k => ⟨A ++ [⟨false, poW b p⟩], colH 45 12 (clsT p k)⟩)
    (fun k => k ≤ p.rules.length) (fun k => p.rules.length - k) 0 (Nat.zero_le _) ⟨rfl, rfl, rfl, rfl, rfl, trivial⟩ rfl ?_
  rintro k hk K hK
  by_cases hlt : k < p.rules.length
  · have q1 : decide ((k : Int) < (p.rules.length : Nat)) = true := decide_eq_true (by omega)
    have ws := wrap_succ (show k ≤ 1000000000 by omega)
    have ix := ixLR (b := b) hlt
    have dr := drLR hlt
    have ft := fitLR hlt
    have on := clsT_next hlt
    have tl : (clsT p k).length ≤ k := by unfold clsT; rw [List.length_map, List.length_take]; omega
    have hbl := h3 _ (List.getElem_mem hlt)
    generalize p.rules[k] = x at *
    have cS := stated_does x.head x.body x.ex (by omega)
    have hA0 := fun hp => appCl13 hp (clsT p k) ⟨x.head, x.body.isEmpty, x.body⟩ (by omega)
    rw [show clsT p k ++ [(⟨x.head, x.body.isEmpty, x.body⟩ : Cls)] = clsT p (k + 1) from on.symm] at hA0
    have hb1 := bld1R x.head x.body
    repeat (first | refine tr_seq_k fun _ _ => ?_ | (refine tr_region ?_; simp only [go_sem, Nat.reduceEqDiff, Nat.reduceLT, ↓reduceIte, q1]) | refine k_of (by assumption) ?_)
    refine tr_cond rfl (fun ht => ?_) (fun hf => ?_)
    · repeat (first | refine tr_seq_k fun _ _ => ?_ | (refine tr_region ?_; simp only [go_sem, List.getElem?_toArray, reduceCtorEq, Nat.reduceEqDiff, Nat.reduceLT, Nat.reduceLeDiff, Nat.reduceAdd, ↓reduceIte, ix, gA1, gS1, g, List.append_assoc, List.length_append, poW, dr, ft, plainB_blC, one_max, ws]) | (refine call_of (cS) ?_ ?_; (first | rfl | simp only [go_sem, reduceCtorEq, Nat.reduceEqDiff, Nat.reduceLT, Nat.reduceLeDiff, Nat.reduceAdd, Nat.reduceMul, Nat.reduceSub, Nat.reduceBEq, ↓reduceIte, ix, gA0, gA1, gS1, g, List.append_assoc, List.length_append, poW, dr, ft, plainB_blC, hb1, one_max, hA0, ws, shut_col]); simp only [go_sem, Nat.reduceEqDiff, Nat.reduceLT, ↓reduceIte, hb1, hA0]) | refine k_of (by assumption) ?_ | refine tr_block ?_ | (refine tr_skip ?_; try simp only [ex_seq]))
      exact hK (k + 1) _ _ hlt ⟨⟨rfl, rfl, rfl, rfl, rfl, trivial⟩, Keep.of (eh := [_]) (ew := []) (by simp only [List.append_assoc, List.cons_append, List.nil_append]; rfl) (by rw [List.append_nil]), by simp only [lowF, low_col, low_c, low_ptr, low_lsl, List.length_append, List.length_cons, List.length_nil, Bool.and_true, Bool.and_eq_true, Nat.blt_eq]; exact ⟨by omega, trivial, by omega⟩, hW2 _, Nat.le_refl _, Nat.zero_le _⟩ (by omega)
    · cases hf
  · have q1 : decide ((k : Int) < (p.rules.length : Nat)) = false := decide_eq_false (by omega)
    obtain rfl : k = p.rules.length := by omega
    have e0 : clsT p p.rules.length = clsG p 0 := by unfold clsT clsG; rw [List.take_length, List.take_zero, List.map_nil, List.append_nil]
    rw [e0]
    repeat (first | refine tr_seq_k fun _ _ => ?_ | (refine tr_region ?_; simp only [go_sem, Nat.reduceEqDiff, Nat.reduceLT, ↓reduceIte, q1]) | refine k_of (by assumption) ?_)
    refine tr_cond rfl (fun ht => ?_) (fun hf => ?_)
    · cases ht
    repeat (first | refine tr_seq_k fun _ _ => ?_ | (refine tr_region ?_; simp only [go_sem, List.getElem?_toArray, reduceCtorEq, Nat.reduceEqDiff, Nat.reduceLT, ↓reduceIte, gA0, poW]) | refine k_of (by assumption) ?_ | refine tr_block ?_ | (refine tr_exit ?_; try simp only [ex_seq_exit, ex_block_exit, ex_seq, ↓reduceIte]))
    refine tr_loop_k (σ := Nat) (fun k => [(1, .ptr A.length 0), (3, colA clsC 0 (clsG p k)), (28, .c (slC grC p.e5 p.grants)), (29, iA p.grants.length), (30, iA k)]) (fun k => ⟨A ++ [⟨false, poW b p⟩], colH 45 12 (clsG p k)⟩)
      (fun k => k ≤ p.grants.length) (fun k => p.grants.length - k) 0 (Nat.zero_le _) ⟨rfl, rfl, rfl, rfl, rfl, trivial⟩ rfl ?_
    clear hK hk hlt q1
    rintro k hk K hK
    by_cases hlt : k < p.grants.length
    · have q1 : decide ((k : Int) < (p.grants.length : Nat)) = true := decide_eq_true (by omega)
      have ws := wrap_succ (show k ≤ 1000000000 by omega)
      have ix := idxGr (ex := p.e5) hlt
      have on := clsG_next hlt
      have tl : (clsG p k).length ≤ p.rules.length + k := by unfold clsG; rw [List.length_append, List.length_map, List.length_map, List.length_take]; omega
      have hbl := h4 _ (List.getElem_mem hlt)
      generalize p.grants[k] = x at *
      have cS := gr13_does x hbl
      have hA0 := fun hp => appCl13 hp (clsG p k) (grCls x) (by omega)
      rw [← on] at hA0
      have hb1 := bld1C13 (grCls x)
      repeat (first | refine tr_seq_k fun _ _ => ?_ | (refine tr_region ?_; simp only [go_sem, Nat.reduceEqDiff, Nat.reduceLT, ↓reduceIte, q1]) | refine k_of (by assumption) ?_)
      refine tr_cond rfl (fun ht => ?_) (fun hf => ?_)
      · repeat (first | refine tr_seq_k fun _ _ => ?_ | (refine tr_region ?_; simp only [go_sem, Nat.reduceEqDiff, Nat.reduceLT, Nat.reduceLeDiff, Nat.reduceAdd, ↓reduceIte, ix, gA1, gS1, List.append_assoc, List.length_append, poW, one_max, ws]) | (refine call_of (cS) ?_ ?_; (first | rfl | simp only [go_sem, reduceCtorEq, Nat.reduceEqDiff, Nat.reduceLT, Nat.reduceLeDiff, Nat.reduceAdd, Nat.reduceMul, Nat.reduceSub, Nat.reduceBEq, ↓reduceIte, ix, gA0, gA1, gS1, List.append_assoc, List.length_append, poW, hb1, one_max, hA0, ws, shut_col]); simp only [go_sem, Nat.reduceEqDiff, Nat.reduceLT, ↓reduceIte, hb1, hA0]) | refine k_of (by assumption) ?_ | refine tr_block ?_ | (refine tr_skip ?_; try simp only [ex_seq]))
        exact hK (k + 1) _ _ hlt ⟨⟨rfl, rfl, rfl, rfl, rfl, trivial⟩, Keep.of (eh := [_]) (ew := []) (by simp only [List.append_assoc, List.cons_append, List.nil_append]; rfl) (by rw [List.append_nil]), by simp only [lowF, low_col, low_c, low_ptr, List.length_append, List.length_cons, List.length_nil, Bool.and_true, Nat.blt_eq]; omega, hW2 _, Nat.le_refl _, by dsimp only; rw [on]; exact colH_le1⟩ (by omega)
      · cases hf
    · have q1 : decide ((k : Int) < (p.grants.length : Nat)) = false := decide_eq_false (by omega)
      obtain rfl : k = p.grants.length := by omega
      have e1 : clsG p p.grants.length = clausesF p := by unfold clsG clausesF; rw [List.take_length]
      rw [e1]
      repeat (first | refine tr_seq_k fun _ _ => ?_ | (refine tr_region ?_; simp only [go_sem, Nat.reduceEqDiff, Nat.reduceLT, ↓reduceIte, q1]) | refine k_of (by assumption) ?_)
      refine tr_cond rfl (fun ht => ?_) (fun hf => ?_)
      · cases ht
      · repeat (first | refine tr_seq_k fun _ _ => ?_ | (refine tr_region ?_; simp only [go_sem, Nat.reduceEqDiff, Nat.reduceLT, ↓reduceIte]) | refine k_of (by assumption) ?_ | (refine tr_exit ?_; try simp only [ex_seq_exit, ex_block_exit, ex_seq, ↓reduceIte]) | (refine tr_ret ?_; try simp only [ex_seq_ret, ex_block_ret]))
        refine (hQ _ _ [colA clsC 0 (clausesF p)] ?_ rfl rfl).2 <;> simp only [go_sem, Nat.reduceEqDiff, ↓reduceIte, Tryd.f6]
theorem clausesWs {p : Pol} (h : Lt13 p) (hb : A[b]? = some (rulB p)) : GivesW Tryd.prog 6 [.strc (poW b p)] ⟨A, []⟩ (.c (slC clsC (clausesF p).isEmpty (clausesF p))) ⟨A, []⟩ :=
  (clausesW hb (by have := h.rn; omega) (by have := h.gn; omega) (fun r hr => by have := (h.rules r hr).2.2; omega) (fun g hg => by have := (h.grants g hg).2.2.2; omega)).trim (Keep.of (eh := [_]) (ew := colH 45 12 (clausesF p)) rfl rfl) (fun h => h) (Nat.le_refl _) (Nat.le_refl _) (cut_shut (shut_col clsC 0 (clausesF p)))
theorem atomsW {p : Pol} (h : Lt13 p) (hb : A[b]? = some (rulB p)) : GivesW Tryd.prog 15 [.strc (poW b p)] ⟨A, []⟩ (colA atC 0 (atomsF p)) ⟨A ++ [⟨false, poW b p⟩], colH 39 11 (atomsF p)⟩ := by
  have cC := clausesWs (A := A ++ [⟨false, poW b p⟩]) h (gAb hb _)
  have hsz := cls_sz h
  have bl : b < A.length := (List.getElem?_eq_some_iff.1 hb).1
  have hll : (clausesF p).length ≤ 140 := by
    have := clauses_len p
    have := h.rn
    have := h.gn
    omega
  unfold atomsF
  generalize clausesF p = C at *
  refine givesW_of' Tryd.func15 rfl (by kernel_rfl) Tryd.ntmps15 rfl rfl fun Q hQ => ?_
  repeat (first | refine tr_seq_k fun _ _ => ?_ | (refine tr_region (id := 0) ?_; simp only [go_sem, reduceCtorEq, Nat.reduceEqDiff, Nat.reduceLT, ↓reduceIte, poW]) | (refine tr_region (id := 1) ?_; simp only [go_sem, reduceCtorEq, Nat.reduceEqDiff, Nat.reduceLT, ↓reduceIte]) | refine k_of (by assumption) ?_)
  refine tr_regionL [.s] ?_
  simp only [go_sem, List.getElem?_toArray, reduceCtorEq, Nat.reduceEqDiff, Nat.reduceLT, Nat.reduceLeDiff, Nat.reduceAdd, ↓reduceIte, gA0, plain_sl]
  repeat (first | (refine call_givesW (cC) ?_; (try dsimp only); (try simp only [go_sem, reduceCtorEq, Nat.reduceEqDiff, Nat.reduceLT, ↓reduceIte])) | refine k_of (by assumption) ?_ | refine tr_block ?_)
  refine tr_low fun hW => ?_
  have hW2 := fun j => lowB_up (Nat.le_refl _) (Nat.zero_le j) hW
  refine tr_loop_k (σ := Nat) (fun k => [(1, .ptr A.length 0), (3, colA atC 0 (atomsK C k)), (7, .c (slC clsC C.isEmpty C)), (8, iA C.length), (9, iA k)]) (fun k => ⟨A ++ [⟨false, poW b p⟩], colH 39 11 (atomsK C k)⟩)
    (fun k => k ≤ C.length) (fun k => C.length - k) 0 (Nat.zero_le _) ⟨rfl, rfl, rfl, rfl, rfl, trivial⟩ rfl ?_
  rintro k hk K hK
  by_cases hlt : k < C.length
  · have q1 : decide ((k : Int) < (C.length : Nat)) = true := decide_eq_true (by omega)
    have ws := wrap_succ (show k ≤ 1000000000 by omega)
    have ix := idxCl (ex := C.isEmpty) hlt
    have on := atomsK_next hlt
    have tl := atomsK_len (fun c hc => (hsz c hc).2.2) k hk
    have hbd := (hsz _ (List.getElem_mem hlt)).2.2
    generalize C[k] = x at *
    have hA0 := fun hp => appA hp (atomsK C k) x.head (by omega)
    have hA1 := fun hp => appAs hp (atomsK C k ++ [x.head]) x.body x.ex (by rw [List.length_append, List.length_singleton]; omega)
    rw [← on] at hA1
    have hb1 := build1A x.head
    repeat (first | refine tr_seq_k fun _ _ => ?_ | (refine tr_region ?_; simp only [go_sem, Nat.reduceEqDiff, Nat.reduceLT, ↓reduceIte, q1]) | refine k_of (by assumption) ?_)
    refine tr_cond rfl (fun ht => ?_) (fun hf => ?_)
    · repeat (first | refine tr_seq_k fun _ _ => ?_ | (refine tr_region ?_; simp only [go_sem, Nat.reduceEqDiff, Nat.reduceLT, Nat.reduceLeDiff, Nat.reduceAdd, ↓reduceIte, ix, clsC, gA1, gS1, List.append_assoc, List.length_append, poW, ws]) | (refine tr_draw (id := 5) follows 10000 [3, 4, 7] [0, 1, 2, 5, 6, 3, 4, 7, 8] (by kernel_rfl) ?_; simp only [go_sem, List.getElem?_toArray, reduceCtorEq, Nat.reduceEqDiff, Nat.reduceLT, Nat.reduceLeDiff, Nat.reduceAdd, Nat.reduceBEq, ↓reduceIte, Bool.true_or, Bool.false_or, gA1, hb1, one_max, hA0, hA1]) | refine k_of (by assumption) ?_ | refine tr_block ?_ | (refine tr_skip ?_; try simp only [ex_seq]))
      exact hK (k + 1) _ _ hlt ⟨⟨rfl, rfl, rfl, rfl, rfl, trivial⟩, Keep.of (eh := [_]) (ew := []) (by simp only [List.append_assoc, List.cons_append, List.nil_append]; rfl) (by rw [List.append_nil]), by simp only [lowF, low_col, low_c, low_ptr, List.length_append, List.length_cons, List.length_nil, Bool.and_true, Nat.blt_eq]; omega, hW2 _, Nat.le_refl _, Nat.zero_le _⟩ (by omega)
    · cases hf
  · have q1 : decide ((k : Int) < (C.length : Nat)) = false := decide_eq_false (by omega)
    obtain rfl : k = C.length := by omega
    have e1 : atomsK C C.length = C.flatMap fun c => c.head :: c.body := by unfold atomsK; rw [List.take_length]
    rw [e1]
    repeat (first | refine tr_seq_k fun _ _ => ?_ | (refine tr_region ?_; simp only [go_sem, Nat.reduceEqDiff, Nat.reduceLT, ↓reduceIte, q1]) | refine k_of (by assumption) ?_)
    refine tr_cond rfl (fun ht => ?_) (fun hf => ?_)
    · cases ht
    · repeat (first | refine tr_seq_k fun _ _ => ?_ | (refine tr_region ?_; simp only [go_sem, Nat.reduceEqDiff, Nat.reduceLT, ↓reduceIte]) | refine k_of (by assumption) ?_ | (refine tr_exit ?_; try simp only [ex_seq_exit, ex_block_exit, ex_seq, ↓reduceIte]) | (refine tr_ret ?_; try simp only [ex_seq_ret, ex_block_ret]))
      refine (hQ _ _ [colA atC 0 (C.flatMap fun c => c.head :: c.body)] ?_ rfl rfl).2 <;> simp only [go_sem, Nat.reduceEqDiff, ↓reduceIte, Tryd.f15]
theorem atomsWs {p : Pol} (h : Lt13 p) (hb : A[b]? = some (rulB p)) : GivesW Tryd.prog 15 [.strc (poW b p)] ⟨A, []⟩ (.c (slC atC (atomsF p).isEmpty (atomsF p))) ⟨A, []⟩ :=
  (atomsW h hb).trim (Keep.of (eh := [_]) (ew := colH 39 11 (atomsF p)) rfl rfl) (fun h => h) (Nat.le_refl _) (Nat.le_refl _) (cut_shut (shut_col atC 0 (atomsF p)))
theorem formsW {p : Pol} (h : Lt13 p) (hb : A[b]? = some (rulB p)) : GivesW Tryd.prog 7 [.strc (poW b p)] ⟨A, []⟩ (.c (slC atC (atomsF p).isEmpty (formsF p))) ⟨A ++ [⟨false, poW b p⟩, ⟨false, [.ent (atEs (fdist (atomsF p)))]⟩], colH 39 11 (fdist (atomsF p))⟩ := by
  have cC := atomsWs (A := A ++ [⟨false, poW b p⟩, ⟨false, [.ent (atEs [])]⟩]) h (gAb hb _)
  have bl : b < A.length := (List.getElem?_eq_some_iff.1 hb).1
  have hsz := atomsF_sz h
  have hll := atomsF_len h
  unfold formsF
  generalize atomsF p = L at *
  refine givesW_of' Tryd.func7 rfl (by kernel_rfl) Tryd.ntmps7 rfl rfl fun Q hQ => ?_
  repeat (first | refine tr_seq_k fun _ _ => ?_ | (refine tr_region (id := 0) ?_; simp only [go_sem, reduceCtorEq, Nat.reduceEqDiff, Nat.reduceLT, ↓reduceIte, poW]) | (refine tr_region (id := 1) ?_; simp only [go_sem, reduceCtorEq, Nat.reduceEqDiff, Nat.reduceLT, ↓reduceIte]) | (refine tr_region (id := 2) ?_; simp only [go_sem, reduceCtorEq, Nat.reduceEqDiff, Nat.reduceLT, ↓reduceIte, List.append_assoc, List.length_append]) | refine k_of (by assumption) ?_)
  refine tr_regionL [.s] ?_
  simp only [go_sem, List.getElem?_toArray, reduceCtorEq, Nat.reduceEqDiff, Nat.reduceLT, Nat.reduceLeDiff, Nat.reduceAdd, ↓reduceIte, gA0, plain_sl]
  repeat (first | (refine call_givesW (cC) ?_; (try dsimp only); (try simp only [go_sem, reduceCtorEq, Nat.reduceEqDiff, Nat.reduceLT, ↓reduceIte])) | refine k_of (by assumption) ?_ | refine tr_block ?_)
  refine tr_low fun hW => ?_
  have hW2 : ∀ L j, lowB (A ++ [(⟨false, poW b p⟩ : Blk), ⟨false, [.ent (atEs L)]⟩]).length j (A ++ [(⟨false, poW b p⟩ : Blk), ⟨false, [.ent (atEs L)]⟩]) = true := fun L j => by
    have := lowB_up (Nat.le_refl _) (Nat.zero_le j) hW
    rw [lowB_cat] at this ⊢
    simpa [lowB, lows, low_ent] using this
  refine tr_loop_k (σ := Nat) (fun k => [(3, colA atC 0 (fdist (L.take k))), (4, .mapp (A.length + 1)), (12, .c (slC atC L.isEmpty L)), (13, iA L.length), (14, iA k)]) (fun k => ⟨A ++ [⟨false, poW b p⟩, ⟨false, [.ent (atEs (fdist (L.take k)))]⟩], colH 39 11 (fdist (L.take k))⟩)
    (fun k => k ≤ L.length) (fun k => L.length - k) 0 (Nat.zero_le _) ⟨rfl, rfl, rfl, rfl, rfl, trivial⟩ rfl ?_
  rintro k hk K hK
  by_cases hlt : k < L.length
  · have q1 : decide ((k : Int) < (L.length : Nat)) = true := decide_eq_true (by omega)
    have ws := wrap_succ (show k ≤ 1000000000 by omega)
    have ix := idxA12 (ex := L.isEmpty) hlt
    have hnx := fdist_next hlt
    have hdl := fdist_le (L.take k)
    rw [List.length_take] at hdl
    generalize L[k] = x at *
    have cF := form_does x
    by_cases hm : formA x ∈ fdist (L.take k)
    · obtain ⟨j, lk⟩ := at_some hm (atEs (fdist (L.take k))).isEmpty
      rw [fmStep, if_pos hm] at hnx
      repeat (first | refine tr_seq_k fun _ _ => ?_ | (refine tr_region ?_; simp only [go_sem, Nat.reduceEqDiff, Nat.reduceLT, ↓reduceIte, q1]) | refine k_of (by assumption) ?_)
      refine tr_cond rfl (fun ht => ?_) (fun hf => ?_)
      · repeat (first | refine tr_seq_k fun _ _ => ?_ | (refine tr_region ?_; simp only [go_sem, Nat.reduceEqDiff, Nat.reduceLT, Nat.reduceLeDiff, Nat.reduceAdd, ↓reduceIte, ix, atC, lk, avU, gA0, gA1, gS1, List.append_assoc, List.length_append, poW]) | (refine call_of (cF) ?_ ?_; (first | rfl | simp only [go_sem, reduceCtorEq, Nat.reduceEqDiff, Nat.reduceLT, Nat.reduceLeDiff, Nat.reduceAdd, Nat.reduceMul, Nat.reduceSub, Nat.reduceBEq, ↓reduceIte, ix, atC, lk, zaU, avU, gA0, gA1, gS1, List.append_assoc, List.length_append, poW, shut_col]); simp only [go_sem, Nat.reduceLeDiff, Nat.reduceAdd, ↓reduceIte, atC, gS1, List.append_assoc, List.length_append]) | refine k_of (by assumption) ?_ | refine tr_block ?_ | (refine tr_skip ?_; try simp only [ex_seq]))
        refine tr_cond rfl (fun ht => ?_) (fun hf => ?_)
        · cases ht
        · repeat (first | (refine tr_region ?_; simp only [go_sem, Nat.reduceEqDiff, Nat.reduceLT, ↓reduceIte, ws]) | refine k_of (by assumption) ?_ | (refine tr_skip ?_; try simp only [ex_seq, ex_block]))
          rw [← hnx]
          exact hK (k + 1) _ _ hlt ⟨⟨rfl, rfl, rfl, rfl, rfl, trivial⟩, Keep.of (eh := [_, _, _]) (ew := []) (by simp only [List.append_assoc, List.cons_append, List.nil_append]; rfl) (List.append_nil _).symm, by simp only [lowF, low_col, low_c, low_mapp, List.length_append, List.length_cons, List.length_nil, Bool.and_true, Bool.and_eq_true, Nat.blt_eq]; exact ⟨trivial, by omega⟩, hW2 _ _, by simp, Nat.zero_le _⟩ (by omega)
      · cases hf
    · have lk := at_none hm
      have pu := at_put hm
      rw [fmStep, if_neg hm] at hnx
      have ap := fun hp => appA hp (fdist (L.take k)) (formA x) (by omega)
      rw [← hnx] at ap pu
      have b1 := build1A (formA x)
      repeat (first | refine tr_seq_k fun _ _ => ?_ | (refine tr_region ?_; simp only [go_sem, Nat.reduceEqDiff, Nat.reduceLT, ↓reduceIte, q1]) | refine k_of (by assumption) ?_)
      refine tr_cond rfl (fun ht => ?_) (fun hf => ?_)
      · repeat (first | refine tr_seq_k fun _ _ => ?_ | (refine tr_region ?_; simp only [go_sem, Nat.reduceEqDiff, Nat.reduceLT, Nat.reduceLeDiff, Nat.reduceAdd, ↓reduceIte, ix, atC, lk, zaU, gA0, gA1, gS1, List.append_assoc, List.length_append, poW]) | (refine call_of (cF) ?_ ?_; (first | rfl | simp only [go_sem, reduceCtorEq, Nat.reduceEqDiff, Nat.reduceLT, Nat.reduceLeDiff, Nat.reduceAdd, Nat.reduceMul, Nat.reduceSub, Nat.reduceBEq, ↓reduceIte, ix, atC, lk, zaU, avU, gA0, gA1, gS1, List.append_assoc, List.length_append, poW, shut_col]); simp only [go_sem, Nat.reduceLeDiff, Nat.reduceAdd, ↓reduceIte, atC, gS1, List.append_assoc, List.length_append]) | refine k_of (by assumption) ?_ | refine tr_block ?_ | (refine tr_skip ?_; try simp only [ex_seq]))
        refine tr_cond rfl (fun ht => ?_) (fun hf => ?_)
        · repeat (first | refine tr_seq_k fun _ _ => ?_ | (refine tr_region ?_; simp only [go_sem, Nat.reduceEqDiff, Nat.reduceLT, Nat.reduceLeDiff, Nat.reduceAdd, ↓reduceIte, pu, b1, one_max, ap, ws, gA1, gS1]) | refine k_of (by assumption) ?_)
          exact hK (k + 1) _ _ hlt ⟨⟨rfl, rfl, rfl, rfl, rfl, trivial⟩, Keep.of (eh := [_, _, _]) (ew := []) (by simp only [List.append_assoc, List.cons_append, List.nil_append]; rfl) (List.append_nil _).symm, by simp only [lowF, low_col, low_c, low_mapp, List.length_append, List.length_cons, List.length_nil, Bool.and_true, Bool.and_eq_true, Nat.blt_eq]; exact ⟨trivial, by omega⟩, hW2 _ _, by simp, Nat.zero_le _⟩ (by omega)
        · cases hf
      · cases hf
  · have q1 : decide ((k : Int) < (L.length : Nat)) = false := decide_eq_false (by omega)
    obtain rfl : k = L.length := by omega
    rw [List.take_length]
    by_cases h0 : fdist L = []
    · have hL : L = [] := by
        cases L with
        | nil => rfl
        | cons a l =>
          have : formA a ∈ fdist (a :: l) := mem_fdist.2 ⟨a, List.mem_cons_self, rfl⟩
          rw [h0] at this
          simp at this
      subst hL
      have cS := sorted_does [] true (by simp) (by simp)
      repeat (first | refine tr_seq_k fun _ _ => ?_ | (refine tr_region ?_; simp only [go_sem, Nat.reduceEqDiff, Nat.reduceLT, ↓reduceIte, h0]) | refine k_of (by assumption) ?_)
      refine tr_cond rfl (fun ht => ?_) (fun hf => ?_)
      · cases ht
      · repeat (first | refine tr_seq_k fun _ _ => ?_ | (refine tr_region ?_; simp only [go_sem, Nat.reduceEqDiff, Nat.reduceLT, ↓reduceIte]) | (refine call_of (cS) ?_ ?_; (first | rfl | simp only [go_sem, reduceCtorEq, Nat.reduceEqDiff, Nat.reduceLT, Nat.reduceLeDiff, Nat.reduceAdd, Nat.reduceMul, Nat.reduceSub, Nat.reduceBEq, ↓reduceIte, h0, shut_col]); simp only [go_sem]) | refine k_of (by assumption) ?_ | (refine tr_exit ?_; try simp only [ex_seq_exit, ex_block_exit, ex_seq, ↓reduceIte]) | (refine tr_ret ?_; try simp only [ex_seq_ret, ex_block_ret]))
        refine (hQ _ _ [.c (slC atC true (srtA []))] ?_ rfl rfl).2 <;> simp only [go_sem, Nat.reduceEqDiff, ↓reduceIte, Tryd.f7]
    · have hlen := fdist_le L
      have cS := sorted_does (fdist L) false (by omega) (fun a ha => by
        obtain ⟨b, hb, rfl⟩ := mem_fdist.1 ha
        exact formA_sz (hsz b hb))
      have e1 : (fdist L).isEmpty = false := by
        rw [List.isEmpty_eq_false_iff]; exact h0
      have e2 : L.isEmpty = false := by
        rw [List.isEmpty_eq_false_iff]
        rintro rfl
        exact h0 rfl
      rw [e1] at cS
      rw [e2] at hQ ⊢
      rw [colH_ne _ _ h0] at hQ
      rw [colA_ne atC 0 h0, colH_ne _ _ h0]
      repeat (first | refine tr_seq_k fun _ _ => ?_ | (refine tr_region ?_; simp only [go_sem, Nat.reduceEqDiff, Nat.reduceLT, ↓reduceIte, q1]) | refine k_of (by assumption) ?_)
      refine tr_cond rfl (fun ht => ?_) (fun hf => ?_)
      · cases ht
      · repeat (first | refine tr_seq_k fun _ _ => ?_ | (refine tr_region ?_; simp only [go_sem, Nat.reduceEqDiff, Nat.reduceLT, ↓reduceIte]) | (refine call_of (cS) ?_ ?_; (first | rfl | simp only [go_sem, reduceCtorEq, Nat.reduceEqDiff, Nat.reduceLT, Nat.reduceLeDiff, Nat.reduceAdd, Nat.reduceMul, Nat.reduceSub, Nat.reduceBEq, ↓reduceIte, shut_col]); simp only [go_sem]) | refine k_of (by assumption) ?_ | (refine tr_exit ?_; try simp only [ex_seq_exit, ex_block_exit, ex_seq, ↓reduceIte]) | (refine tr_ret ?_; try simp only [ex_seq_ret, ex_block_ret]))
        refine (hQ _ _ [.c (slC atC false (srtA (fdist L)))] ?_ rfl rfl).2 <;> simp only [go_sem, Nat.reduceEqDiff, ↓reduceIte, Tryd.f7]
theorem formsWs {p : Pol} (h : Lt13 p) (hb : A[b]? = some (rulB p)) : GivesW Tryd.prog 7 [.strc (poW b p)] ⟨A, []⟩ (.c (slC atC (atomsF p).isEmpty (formsF p))) ⟨A, []⟩ :=
  (formsW h hb).trim (Keep.of (eh := [_, _]) (ew := colH 39 11 (fdist (atomsF p))) rfl rfl) (fun h => h) (Nat.le_refl _) (Nat.le_refl _) (cut_shut rfl)
theorem constsW {p : Pol} (h : Lt13 p) (hb : A[b]? = some (rulB p)) : GivesW Tryd.prog 9 [.strc (poW b p)] ⟨A, []⟩ (.c (slC stC (csAll (atomsF p)).isEmpty (constsF p))) ⟨A ++ [⟨false, poW b p⟩, ⟨false, [.ent (setEs .string u0 (csAll (atomsF p)))]⟩, ⟨false, [.mapp (A.length + 1)]⟩], []⟩ := by
  have cC := atomsWs (A := A ++ [⟨false, poW b p⟩, ⟨false, [.ent (setEs .string u0 [])]⟩]) h (gAb hb _)
  have bl : b < A.length := (List.getElem?_eq_some_iff.1 hb).1
  have hsz := csAll_sz (atomsF_sz h)
  have hll := atomsF_len h
  unfold constsF
  have hnd : (csAll (atomsF p)).Nodup := csF_nodup _ List.nodup_nil
  have hln : (csAll (atomsF p)).length ≤ 1000000 := by
    have := csF_len (atomsF p) (acc := [])
    rw [List.length_nil] at this
    unfold csAll
    omega
  generalize atomsF p = L at *
  refine givesW_of' Tryd.func9 rfl (by kernel_rfl) Tryd.ntmps9 rfl rfl fun Q hQ => ?_
  repeat (first | refine tr_seq_k fun _ _ => ?_ | (refine tr_region (id := 0) ?_; simp only [go_sem, reduceCtorEq, Nat.reduceEqDiff, Nat.reduceLT, ↓reduceIte, poW]) | (refine tr_region (id := 1) ?_; simp only [go_sem, reduceCtorEq, Nat.reduceEqDiff, Nat.reduceLT, ↓reduceIte, List.append_assoc, List.length_append]) | refine k_of (by assumption) ?_)
  refine tr_regionL [.s] ?_
  simp only [go_sem, List.getElem?_toArray, reduceCtorEq, Nat.reduceEqDiff, Nat.reduceLT, Nat.reduceLeDiff, Nat.reduceAdd, ↓reduceIte, gA0, plain_sl]
  repeat (first | (refine call_givesW (cC) ?_; (try dsimp only); (try simp only [go_sem, reduceCtorEq, Nat.reduceEqDiff, Nat.reduceLT, ↓reduceIte])) | refine k_of (by assumption) ?_ | refine tr_block ?_)
  refine tr_low fun hW => ?_
  have hW2 : ∀ V j, lowB (A ++ [(⟨false, poW b p⟩ : Blk), ⟨false, [.ent (setEs .string u0 V)]⟩]).length j (A ++ [(⟨false, poW b p⟩ : Blk), ⟨false, [.ent (setEs .string u0 V)]⟩]) = true := fun V j => by
    have := lowB_up (Nat.le_refl _) (Nat.zero_le j) hW
    rw [lowB_cat] at this ⊢
    simpa [lowB, lows, low_ent] using this
  refine tr_loop_k (σ := Nat) (fun i => [(3, .mapp (A.length + 1)), (10, .c (slC atC L.isEmpty L)), (11, iA L.length), (12, iA i)]) (fun i => ⟨A ++ [⟨false, poW b p⟩, ⟨false, [.ent (setEs .string u0 (csL L i))]⟩], []⟩)
    (fun i => i ≤ L.length) (fun i => L.length - i) 0 (Nat.zero_le _) ⟨rfl, rfl, rfl, rfl, trivial⟩ rfl ?_
  rintro i hi K hK
  by_cases hlt : i < L.length
  · have q1 : decide ((i : Int) < (L.length : Nat)) = true := decide_eq_true (by omega)
    have ws := wrap_succ (show i ≤ 1000000000 by omega)
    have ix := idxA12 (ex := L.isEmpty) hlt
    have on := csL_next hlt
    generalize L[i] = a at *
    have cV := consts3_does a
    have hV : (pnames a false).length ≤ 4 := Nat.le_trans (pnamesC_len a a.count) a.count_le
    generalize pnames a false = V at *
    repeat (first | refine tr_seq_k fun _ _ => ?_ | (refine tr_region ?_; simp only [go_sem, Nat.reduceEqDiff, Nat.reduceLT, ↓reduceIte, q1]) | refine k_of (by assumption) ?_)
    refine tr_cond rfl (fun ht => ?_) (fun hf => ?_)
    · repeat (first | refine tr_seq_k fun _ _ => ?_ | (refine tr_region ?_; simp only [go_sem, List.getElem?_toArray, Nat.reduceEqDiff, Nat.reduceLT, Nat.reduceLeDiff, Nat.reduceAdd, ↓reduceIte, ix, atC, gA1, gS1, List.append_assoc, List.length_append]) | (refine call_of (cV) ?_ ?_; (first | rfl | simp only [go_sem, reduceCtorEq, Nat.reduceEqDiff, Nat.reduceLT, Nat.reduceLeDiff, Nat.reduceAdd, Nat.reduceMul, Nat.reduceSub, Nat.reduceBEq, ↓reduceIte, ix, atC, gA0, gA1, gS1, List.append_assoc, List.length_append, shut_col]); simp only [go_sem, Nat.reduceEqDiff, Nat.reduceLT, ↓reduceIte]) | refine k_of (by assumption) ?_ | refine tr_block ?_ | (refine tr_skip ?_; try simp only [ex_seq]))
      refine tr_low fun hX => ?_
      have hX2 : ∀ V j, lowB (A ++ [(⟨false, poW b p⟩ : Blk), ⟨false, [.ent (setEs .string u0 V)]⟩, ⟨false, ([.c (.v (.string a.says)), .c (.v (.string a.pred)), .c (.v (.int .i64 a.n)), .c (.v (.bool a.a0.v)), .c (.v (.string a.a0.name)), .c (.v (.bool a.a1.v)), .c (.v (.string a.a1.name)), .c (.v (.bool a.a2.v)), .c (.v (.string a.a2.name)), .c (.v (.bool a.a3.v)), .c (.v (.string a.a3.name))] : List AV)⟩]).length j (A ++ [(⟨false, poW b p⟩ : Blk), ⟨false, [.ent (setEs .string u0 V)]⟩, ⟨false, ([.c (.v (.string a.says)), .c (.v (.string a.pred)), .c (.v (.int .i64 a.n)), .c (.v (.bool a.a0.v)), .c (.v (.string a.a0.name)), .c (.v (.bool a.a1.v)), .c (.v (.string a.a1.name)), .c (.v (.bool a.a2.v)), .c (.v (.string a.a2.name)), .c (.v (.bool a.a3.v)), .c (.v (.string a.a3.name))] : List AV)⟩]) = true := fun V j => by
        have := lowB_up (Nat.le_refl _) (Nat.zero_le j) hX
        rw [lowB_cat] at this ⊢
        simpa [lowB, lows, low_ent] using this
      refine tr_loop_k (σ := Nat) (fun k => [(3, .mapp (A.length + 1)), (10, .c (slC atC L.isEmpty L)), (11, iA L.length), (12, iA i), (17, .c (slC stC V.isEmpty V)), (18, iA V.length), (19, iA k)]) (fun k => ⟨A ++ [⟨false, poW b p⟩, ⟨false, [.ent (setEs .string u0 (csK V (csL L i) k))]⟩, ⟨false, ([.c (.v (.string a.says)), .c (.v (.string a.pred)), .c (.v (.int .i64 a.n)), .c (.v (.bool a.a0.v)), .c (.v (.string a.a0.name)), .c (.v (.bool a.a1.v)), .c (.v (.string a.a1.name)), .c (.v (.bool a.a2.v)), .c (.v (.string a.a2.name)), .c (.v (.bool a.a3.v)), .c (.v (.string a.a3.name))] : List AV)⟩], []⟩)
        (fun k => k ≤ V.length) (fun k => V.length - k) 0 (Nat.zero_le _) ⟨rfl, rfl, rfl, rfl, rfl, rfl, rfl, trivial⟩ rfl ?_
      rintro k hk K2 hK2
      by_cases hkl : k < V.length
      · have q2 : decide ((k : Int) < (V.length : Nat)) = true := decide_eq_true (by omega)
        have ws2 := wrap_succ (show k ≤ 1000000000 by omega)
        have ixs := idxS12 (ex := V.isEmpty) hkl
        have pu := on_put (P := Tryd.prog) Tryd.underlying9 (u := u0) (csK V (csL L i) k) V[k]
        rw [← csK_next hkl] at pu
        repeat (first | refine tr_seq_k fun _ _ => ?_ | (refine tr_region ?_; simp only [go_sem, Nat.reduceEqDiff, Nat.reduceLT, ↓reduceIte, q2]) | refine k_of (by assumption) ?_)
        refine tr_cond rfl (fun ht => ?_) (fun hf => ?_)
        · repeat (first | refine tr_seq_k fun _ _ => ?_ | (refine tr_region ?_; simp only [go_sem, Nat.reduceEqDiff, Nat.reduceLT, ↓reduceIte, ixs, stC, pu, ws2, gA1, gS1]) | refine k_of (by assumption) ?_ | refine tr_block ?_ | (refine tr_skip ?_; try simp only [ex_seq]))
          exact hK2 (k + 1) _ _ hkl ⟨⟨rfl, rfl, rfl, rfl, rfl, rfl, rfl, trivial⟩, Keep.refl _, by simp only [lowF, low_c, low_mapp, List.length_append, List.length_cons, List.length_nil, Bool.and_true, Nat.blt_eq]; omega, hX2 _ _, by simp, Nat.le_refl _⟩ (by omega)
        · cases hf
      · have q2 : decide ((k : Int) < (V.length : Nat)) = false := decide_eq_false (by omega)
        obtain rfl : k = V.length := by omega
        repeat (first | refine tr_seq_k fun _ _ => ?_ | (refine tr_region ?_; simp only [go_sem, Nat.reduceEqDiff, Nat.reduceLT, ↓reduceIte, q2]) | refine k_of (by assumption) ?_)
        refine tr_cond rfl (fun ht => ?_) (fun hf => ?_)
        · cases ht
        · repeat (first | (refine tr_region ?_; simp only [go_sem, Nat.reduceEqDiff, Nat.reduceLT, ↓reduceIte, ws]) | refine k_of (by assumption) ?_ | (refine tr_exit ?_; try simp only [ex_seq_exit, ex_block_exit, ex_seq, ex_block, ↓reduceIte]))
          rw [← on]
          exact hK (i + 1) _ _ hlt ⟨⟨rfl, rfl, rfl, rfl, trivial⟩, Keep.of (eh := [_]) (ew := []) (by simp only [List.append_assoc, List.cons_append, List.nil_append]; rfl) (List.append_nil _).symm, by simp only [lowF, low_c, low_mapp, List.length_append, List.length_cons, List.length_nil, Bool.and_true, Nat.blt_eq]; omega, hW2 _ _, by simp, Nat.zero_le _⟩ (by omega)
    · cases hf
  · have q1 : decide ((i : Int) < (L.length : Nat)) = false := decide_eq_false (by omega)
    obtain rfl : i = L.length := by omega
    rw [csL_all]
    repeat (first | refine tr_seq_k fun _ _ => ?_ | (refine tr_region ?_; simp only [go_sem, Nat.reduceEqDiff, Nat.reduceLT, ↓reduceIte, q1]) | refine k_of (by assumption) ?_)
    refine tr_cond rfl (fun ht => ?_) (fun hf => ?_)
    · cases ht
    repeat (first | refine tr_seq_k fun _ _ => ?_ | (refine tr_region ?_; simp only [go_sem, Nat.reduceEqDiff, Nat.reduceLT, ↓reduceIte]) | refine k_of (by assumption) ?_ | (refine tr_exit ?_; try simp only [ex_seq_exit, ex_block_exit, ex_seq, ↓reduceIte]))
    refine ⟨_, _, Or.inr ⟨keys13_gives _ _ (A.length + 1), ?_⟩⟩
    simp only [go_sem, Nat.reduceAdd, List.append_assoc, List.length_append]
    refine ⟨_, _, Or.inr ⟨sorted13_gives (b := A.length + 2) (bm := A.length + 1) (l := csAll L) (by simp) (by simp) hnd hsz hln, ?_⟩⟩
    repeat (first | refine k_of (by assumption) ?_ | (refine tr_ret ?_; try simp only [ex_seq_ret, ex_block_ret]))
    refine (hQ _ _ [.c (slC stC (csAll L).isEmpty (sortB (csAll L)))] ?_ rfl rfl).2 <;> simp only [go_sem, Nat.reduceEqDiff, ↓reduceIte, Tryd.f9]
theorem constsWs {p : Pol} (h : Lt13 p) (hb : A[b]? = some (rulB p)) : GivesW Tryd.prog 9 [.strc (poW b p)] ⟨A, []⟩ (.c (slC stC (csAll (atomsF p)).isEmpty (constsF p))) ⟨A, []⟩ :=
  (constsW h hb).trim (Keep.of (eh := [_, _, _]) (ew := []) rfl rfl) (fun h => h) (Nat.le_refl _) (Nat.le_refl _) (cut_shut rfl)
end Go.Proofs.YtinbfakpjnnagaaDoor
namespace Go.Proofs.YtinbfakpjnnagaaDoor
open Go.RowKit Go.Vs Go.Vs.Ab Go.Vs.Sm
set_option maxRecDepth 100000
set_option maxHeartbeats 4000000
abbrev nY : ByteArray := ⟨#[89]⟩
abbrev nOp : ByteArray := ⟨#[111, 112, 101, 110]⟩
abbrev nA : ByteArray := ⟨#[97]⟩
abbrev nB : ByteArray := ⟨#[98]⟩
abbrev nV0 : ByteArray := ⟨#[86, 48]⟩
abbrev nV1 : ByteArray := ⟨#[86, 49]⟩
def m1 : Atm := ⟨eAl, eP, 1, ⟨true, eX⟩, eZ, eZ, eZ⟩
def m2 : Atm := ⟨eBo, eQ, 2, ⟨true, eX⟩, ⟨true, nY⟩, eZ, eZ⟩
def m3 : Atm := ⟨eCa, eP, 1, ⟨true, nY⟩, eZ, eZ, eZ⟩
def m4 : Atm := ⟨eAl, eQ, 2, ⟨true, eX⟩, ⟨true, nY⟩, eZ, eZ⟩
def m5 : Atm := ⟨eCa, eP, 1, ⟨true, eX⟩, eZ, eZ, eZ⟩
def m6 : Atm := ⟨eAl, eP, 1, ⟨false, nB⟩, eZ, eZ, eZ⟩
def n1 : Atm := ⟨eAl, eP, 1, ⟨true, nV0⟩, eZ, eZ, eZ⟩
def n2 : Atm := ⟨eAl, eQ, 2, ⟨true, nV0⟩, ⟨true, nV1⟩, eZ, eZ⟩
def n3 : Atm := ⟨eBo, eQ, 2, ⟨true, nV0⟩, ⟨true, nV1⟩, eZ, eZ⟩
def n4 : Atm := ⟨eCa, eP, 1, ⟨true, nV0⟩, eZ, eZ, eZ⟩
def n5 : Atm := ⟨nA, nOp, 0, eZ, eZ, eZ, eZ⟩
def rulS (h : Atm) : Rul := ⟨h, true, [m2, m3]⟩
def polS (h : Atm) : Pol := ⟨true, [eAl, eBo, eCa], true, [⟨eP, 1⟩, ⟨eQ, 2⟩, ⟨nOp, 0⟩], true, [⟨eAl, true, [eCa, eBo]⟩], 3, 100, true, [rulS h], true, [⟨eBo, m4, true, [m5]⟩]⟩
abbrev l1 (s : ByteArray) : CV := .sl true 1 [.v (.string s)]
abbrev l2 (s t : ByteArray) : CV := .sl true 2 [.v (.string s), .v (.string t)]
theorem three_max : (3 ≤ maxLen) = True := eq_true (by decide)
theorem es_ru : eSize Tryd.prog 26 = some 12 := by kernel_rfl
theorem bS_prin : aBuildSlice Tryd.prog 23 3 [(0, sA eAl), (1, sA eBo), (2, sA eCa)] = some [.v (.string eAl), .v (.string eBo), .v (.string eCa)] := by kernel_rfl
theorem bS_preds : aBuildSlice Tryd.prog 24 3 [(0, .agg [.v (.string eP), .v (.int .i64 1)]), (1, .agg [.v (.string eQ), .v (.int .i64 2)]), (2, .agg [.v (.string nOp), .v (.int .i64 0)])] = some [.v (.string eP), .v (.int .i64 1), .v (.string eQ), .v (.int .i64 2), .v (.string nOp), .v (.int .i64 0)] := by kernel_rfl
theorem bS_cl : aBuildSlice Tryd.prog 25 1 [(0, .agg [.v (.string eAl), .sl true 2 [.v (.string eCa), .v (.string eBo)]])] = some [.v (.string eAl), .sl true 2 [.v (.string eCa), .v (.string eBo)]] := by
  simp only [aBuildSlice, Tryd.underlying25, sz54, ze54]
  rfl
theorem bS_at2 (a b : Atm) : aBuildSlice Tryd.prog 33 2 [(0, .agg [.v (.string a.says), .v (.string a.pred), .v (.int .i64 a.n), .v (.bool a.a0.v), .v (.string a.a0.name), .v (.bool a.a1.v), .v (.string a.a1.name), .v (.bool a.a2.v), .v (.string a.a2.name), .v (.bool a.a3.v), .v (.string a.a3.name)]), (1, .agg [.v (.string b.says), .v (.string b.pred), .v (.int .i64 b.n), .v (.bool b.a0.v), .v (.string b.a0.name), .v (.bool b.a1.v), .v (.string b.a1.name), .v (.bool b.a2.v), .v (.string b.a2.name), .v (.bool b.a3.v), .v (.string b.a3.name)])] = some ([a, b].flatMap atC) := by
  simp only [aBuildSlice, Tryd.underlying33, sz39, ze39]
  rfl
theorem bS_ru (a : Atm) (ex : Bool) (n : Nat) (cs : List CV) : aBuildSlice Tryd.prog 26 1 [(0, .agg ([.v (.string a.says), .v (.string a.pred), .v (.int .i64 a.n), .v (.bool a.a0.v), .v (.string a.a0.name), .v (.bool a.a1.v), .v (.string a.a1.name), .v (.bool a.a2.v), .v (.string a.a2.name), .v (.bool a.a3.v), .v (.string a.a3.name)] ++ [.sl ex n cs]))] = some ([.v (.string a.says), .v (.string a.pred), .v (.int .i64 a.n), .v (.bool a.a0.v), .v (.string a.a0.name), .v (.bool a.a1.v), .v (.string a.a1.name), .v (.bool a.a2.v), .v (.string a.a2.name), .v (.bool a.a3.v), .v (.string a.a3.name)] ++ [.sl ex n cs]) := by
  simp only [aBuildSlice, Tryd.underlying26, sz42, ze42]
  rfl
theorem bS_gr (s : ByteArray) (a : Atm) (ex : Bool) (n : Nat) (cs : List CV) : aBuildSlice Tryd.prog 27 1 [(0, .agg (.v (.string s) :: ([.v (.string a.says), .v (.string a.pred), .v (.int .i64 a.n), .v (.bool a.a0.v), .v (.string a.a0.name), .v (.bool a.a1.v), .v (.string a.a1.name), .v (.bool a.a2.v), .v (.string a.a2.name), .v (.bool a.a3.v), .v (.string a.a3.name)] ++ [.sl ex n cs])))] = some (.v (.string s) :: ([.v (.string a.says), .v (.string a.pred), .v (.int .i64 a.n), .v (.bool a.a0.v), .v (.string a.a0.name), .v (.bool a.a1.v), .v (.string a.a1.name), .v (.bool a.a2.v), .v (.string a.a2.name), .v (.bool a.a3.v), .v (.string a.a3.name)] ++ [.sl ex n cs])) := by
  simp only [aBuildSlice, Tryd.underlying27, sz50, ze50]
  rfl
theorem small_gives : GivesW Tryd.prog 5 [] ⟨[], []⟩ (.strc (poW 1 (polS m1))) ⟨[⟨false, poW 1 (polS m1)⟩, rulB (polS m1)], []⟩ := by
  have c1 := pA_does eAl eP (l1 eX) m1 rfl (by kernel_rfl)
  have c2 := pA_does eBo eQ (l2 eX nY) m2 rfl (by kernel_rfl)
  have c3 := pA_does eCa eP (l1 nY) m3 rfl (by kernel_rfl)
  have c4 := pA_does eAl eQ (l2 eX nY) m4 rfl (by kernel_rfl)
  have c5 := pA_does eCa eP (l1 eX) m5 rfl (by kernel_rfl)
  refine givesW_ofS Tryd.func5 rfl (by kernel_rfl) Tryd.ntmps5 rfl rfl Tryd.underlying29 (i := 7) sz29 fun Q hQ => ?_
  repeat (first | refine tr_seq_k fun _ _ => ?_ | (refine tr_region (id := 0) ?_; simp only [go_sem, Nat.reduceLT]) | refine k_of (by assumption) ?_)
  refine tr_regionL [.n, .n, .n, .n, .n, .n, .n, .n, .n, .n, .n, .n, .n, .n, .n, .n, .l] ?_
  have b2 := bS_at2 m2 m3
  have b3 : aBuildSlice Tryd.prog 26 1 [(0, .agg ([.v (.string m1.says), .v (.string m1.pred), .v (.int .i64 m1.n), .v (.bool m1.a0.v), .v (.string m1.a0.name), .v (.bool m1.a1.v), .v (.string m1.a1.name), .v (.bool m1.a2.v), .v (.string m1.a2.name), .v (.bool m1.a3.v), .v (.string m1.a3.name)] ++ [.sl true 2 ([.v (.string m2.says), .v (.string m2.pred), .v (.int .i64 m2.n), .v (.bool m2.a0.v), .v (.string m2.a0.name), .v (.bool m2.a1.v), .v (.string m2.a1.name), .v (.bool m2.a2.v), .v (.string m2.a2.name), .v (.bool m2.a3.v), .v (.string m2.a3.name)] ++ [.v (.string m3.says), .v (.string m3.pred), .v (.int .i64 m3.n), .v (.bool m3.a0.v), .v (.string m3.a0.name), .v (.bool m3.a1.v), .v (.string m3.a1.name), .v (.bool m3.a2.v), .v (.string m3.a2.name), .v (.bool m3.a3.v), .v (.string m3.a3.name)])]))] = some ([rulS m1].flatMap ruC) := bS_ru m1 true 2 ([m2, m3].flatMap atC)
  have b4 := bld1A m5
  have b5 : aBuildSlice Tryd.prog 27 1 [(0, .agg (.v (.string eBo) :: ([.v (.string m4.says), .v (.string m4.pred), .v (.int .i64 m4.n), .v (.bool m4.a0.v), .v (.string m4.a0.name), .v (.bool m4.a1.v), .v (.string m4.a1.name), .v (.bool m4.a2.v), .v (.string m4.a2.name), .v (.bool m4.a3.v), .v (.string m4.a3.name)] ++ [.sl true 1 [.v (.string m5.says), .v (.string m5.pred), .v (.int .i64 m5.n), .v (.bool m5.a0.v), .v (.string m5.a0.name), .v (.bool m5.a1.v), .v (.string m5.a1.name), .v (.bool m5.a2.v), .v (.string m5.a2.name), .v (.bool m5.a3.v), .v (.string m5.a3.name)]])))] = some ([(⟨eBo, m4, true, [m5]⟩ : Grt)].flatMap grC) := bS_gr eBo m4 true 1 ([m5].flatMap atC)
  simp only [List.cons_append, List.nil_append] at b3 b5
  simp only [go_sem, reduceCtorEq, Nat.reduceEqDiff, Nat.reduceLT, Nat.reduceLeDiff, Nat.reduceAdd, ↓reduceIte, one_max, two_max, three_max, es_ru, bS_prin, bS_preds, bS_cl]
  repeat (first | (refine call_of (c1) ?_ ?_; (first | rfl | simp only [go_sem]); simp only [go_sem]) | (refine call_of (c2) ?_ ?_; (first | rfl | simp only [go_sem]); simp only [go_sem]) | (refine call_of (c3) ?_ ?_; (first | rfl | simp only [go_sem]); simp only [go_sem, reduceCtorEq, Nat.reduceEqDiff, Nat.reduceLT, Nat.reduceLeDiff, Nat.reduceAdd, ↓reduceIte, b2, b3]) | (refine call_of (c4) ?_ ?_; (first | rfl | simp only [go_sem]); simp only [go_sem]) | (refine call_of (c5) ?_ ?_; (first | rfl | simp only [go_sem, reduceCtorEq, Nat.reduceEqDiff, Nat.reduceLT, Nat.reduceLeDiff, Nat.reduceAdd, Nat.reduceMul, Nat.reduceSub, Nat.reduceBEq, ↓reduceIte, one_max, two_max, three_max, es_ru, bS_prin, bS_preds, bS_cl, b2, b3, b4, b5, shut_col]); simp only [go_sem, reduceCtorEq, Nat.reduceEqDiff, Nat.reduceLT, Nat.reduceLeDiff, Nat.reduceAdd, ↓reduceIte, b4, b5]) | refine k_of (by assumption) ?_ | (refine tr_ret ?_; try simp only [ex_seq_ret, ex_block_ret]))
  exact (hQ _ _ 0 0 _ rfl rfl ⟨rfl, rfl, rfl, rfl⟩ rfl rfl).2
/-! ### the statement -/
theorem srtA_F (l : List Atm) : srtA l = srtF ltA l.length l := (srtF_law (totK txA) l.length l (Nat.le_refl _)).symm
theorem forms_S : formsF (polS m1) = [n1, n2, n3, n4] := by
  unfold formsF
  rw [srtA_F]
  decide +kernel
theorem consts_S : constsF (polS m6) = [nB] := by
  have e : csAll (atomsF (polS m6)) = [nB] := by decide +kernel
  unfold constsF
  rw [e]
  decide +kernel
abbrev tS1 : ByteArray := ⟨#[97, 108, 105, 99, 101, 32, 115, 97, 121, 115, 32, 112, 40, 88, 41, 32, 105, 102, 32, 98, 111, 98, 32, 115, 97, 121, 115, 32, 113, 40, 88, 44, 32, 89, 41, 44, 32, 99, 97, 114, 111, 108, 32, 115, 97, 121, 115, 32, 112, 40, 89, 41]⟩
abbrev tS2 : ByteArray := ⟨#[97, 108, 105, 99, 101, 32, 115, 97, 121, 115, 32, 113, 40, 88, 44, 32, 89, 41, 32, 105, 102, 32, 98, 111, 98, 32, 115, 97, 121, 115, 32, 113, 40, 88, 44, 32, 89, 41, 44, 32, 99, 97, 114, 111, 108, 32, 115, 97, 121, 115, 32, 112, 40, 88, 41]⟩
abbrev tS3 : ByteArray := ⟨#[97, 32, 115, 97, 121, 115, 32, 111, 112, 101, 110]⟩
theorem text_S1 : clText m1 [m2, m3] = tS1 := by decide +kernel
theorem text_S2 : clText m4 [m2, m5] = tS2 := by decide +kernel
theorem text_S3 : clText n5 [] = tS3 := by decide +kernel
theorem lt_S (h : Atm) (hh : AtSz h) : Lt13 (polS h) := by
  have z2 : AtSz m2 := lightA_sz (by decide +kernel)
  have z3 : AtSz m3 := lightA_sz (by decide +kernel)
  have z4 : AtSz m4 := lightA_sz (by decide +kernel)
  have z5 : AtSz m5 := lightA_sz (by decide +kernel)
  refine ⟨⟨?_, ?_, ?_, fun c hc => ?_, ?_, ?_, fun r hr => ?_, fun g hg => ?_⟩, ?_, ?_, fun r hr => ?_, fun g hg => ?_⟩
  · exact Nat.le_of_ble_eq_true rfl
  · exact Nat.le_of_ble_eq_true rfl
  · exact Nat.le_of_ble_eq_true rfl
  · obtain rfl := List.mem_singleton.1 hc
    exact Nat.le_of_ble_eq_true rfl
  · exact Nat.le_of_ble_eq_true rfl
  · exact Nat.le_of_ble_eq_true rfl
  · obtain rfl := List.mem_singleton.1 hr
    exact Nat.le_of_ble_eq_true rfl
  · obtain rfl := List.mem_singleton.1 hg
    exact Nat.le_of_ble_eq_true rfl
  · exact Nat.le_of_ble_eq_true rfl
  · exact Nat.le_of_ble_eq_true rfl
  · obtain rfl := List.mem_singleton.1 hr
    refine ⟨hh, fun a ha => ?_, Nat.le_of_ble_eq_true rfl⟩
    rcases List.mem_cons.1 ha with rfl | ha
    · exact z2
    · obtain rfl := List.mem_singleton.1 ha
      exact z3
  · obtain rfl := List.mem_singleton.1 hg
    refine ⟨by decide, z4, fun a ha => ?_, Nat.le_of_ble_eq_true rfl⟩
    obtain rfl := List.mem_singleton.1 ha
    exact z5
theorem dnames_does : Does Tryd.prog 3 [] (fun m => (bA true, m)) := by
  have c0 := lives13_does
  have zz : ∀ a, lightA a = true → AtSz a := fun a h => lightA_sz h
  have z1 := zz m1 (by decide +kernel)
  have z2 := zz m2 (by decide +kernel)
  have z3 := zz m3 (by decide +kernel)
  have z4 := zz m4 (by decide +kernel)
  have z5 := zz m5 (by decide +kernel)
  have cS := small_gives
  have hp1 : ([⟨false, poW 1 (polS m1)⟩, rulB (polS m1), ⟨false, poW 1 (polS m1)⟩] : List Blk)[1]? = some (rulB (polS m1)) := rfl
  have cC := clausesWs (lt_S m1 z1) hp1
  rw [show clausesF (polS m1) = [⟨m1, false, [m2, m3]⟩, ⟨m4, false, [m2, m5]⟩] from rfl] at cC
  have cF := formsWs (lt_S m1 z1) hp1
  rw [forms_S, show (atomsF (polS m1)).isEmpty = false from rfl] at cF
  have cA := pA_does eAl eP (l1 nB) m6 rfl (by kernel_rfl)
  have hp2 : ([⟨false, poW 1 (polS m1)⟩, rulB (polS m6), ⟨false, poW 1 (polS m1)⟩] : List Blk)[1]? = some (rulB (polS m6)) := rfl
  have cK := constsWs (lt_S m6 (zz m6 (by decide +kernel))) hp2
  rw [consts_S, show (csAll (atomsF (polS m6))).isEmpty = false from by decide +kernel, show poW 1 (polS m6) = poW 1 (polS m1) from rfl] at cK
  clear hp1 hp2
  refine does_of' Tryd.func3 rfl (by kernel_rfl) rfl Tryd.ntmps3 rfl rfl fun Q hQ => ?_
  repeat (first | refine tr_seq_k fun _ _ => ?_ | (refine tr_region (id := 0) ?_; simp only [go_sem, Nat.reduceLT]) | (refine tr_region (id := 1) ?_; simp only [go_sem, reduceCtorEq, Nat.reduceLT, ↓reduceIte]) | (refine call_of (c0) ?_ ?_; (first | rfl | simp only [go_sem, reduceCtorEq, Nat.reduceEqDiff, Nat.reduceLT, Nat.reduceLeDiff, Nat.reduceAdd, Nat.reduceMul, Nat.reduceSub, Nat.reduceBEq, ↓reduceIte, shut_col]); simp only [go_sem, reduceCtorEq, Nat.reduceEqDiff, Nat.reduceLT, ↓reduceIte]) | refine k_of (by assumption) ?_)
  refine tr_cond rfl (fun ht => ?_) (fun hf => ?_)
  · cases ht
  repeat (first | refine tr_seq_k fun _ _ => ?_ | (refine tr_region (id := 3) ?_; simp only [go_sem, reduceCtorEq, Nat.reduceEqDiff, Nat.reduceLT, ↓reduceIte]) | (refine call_givesW (cS) ?_; (try dsimp only); (try simp only [go_sem, Nat.reduceLeDiff, Nat.reduceAdd, ↓reduceIte, poW])) | refine k_of (by assumption) ?_ | (refine tr_skip ?_; try simp only [ex_seq]))
  refine tr_regionL [.s] ?_
  simp only [go_sem, reduceCtorEq, Nat.reduceEqDiff, Nat.reduceLT, Nat.reduceLeDiff, Nat.reduceAdd, ↓reduceIte, plain_sl]
  repeat (first | refine tr_seq_k fun _ _ => ?_ | (refine call_givesW (cC) ?_; (try dsimp only); (try simp only [go_sem])) | refine k_of (by assumption) ?_)
  refine tr_regionL [.s] ?_
  simp only [go_sem, reduceCtorEq, Nat.reduceEqDiff, Nat.reduceLT, Nat.reduceLeDiff, Nat.reduceAdd, ↓reduceIte, poW, plain_sl]
  repeat (first | refine tr_seq_k fun _ _ => ?_ | (refine call_givesW (cF) ?_; (try dsimp only); (try simp only [go_sem, reduceCtorEq, Nat.reduceEqDiff, Nat.reduceLT, Nat.reduceLeDiff, Nat.reduceAdd, Nat.reduceMul, Nat.reduceSub, Nat.reduceBEq, ↓reduceIte])) | refine k_of (by assumption) ?_)
  have ixl : aIndexL Tryd.prog 26 (.lsl 1 0 (polS m1).rules.length 12) (.c (.v (.int .i64 0))) = some (.ptr 1 0) := ixLR (b := 1) (l := (polS m1).rules) (k := 0) (by decide)
  have b1 := build1T nB
  have pl : plainB (blC ruC (polS m1).rules) = true := plainB_blC
  have le : (11 ≤ (blC ruC (polS m1).rules).length) = True := eq_true (by decide)
  have st : ([.c (.v (.string m6.says)), .c (.v (.string m6.pred)), .c (.v (.int .i64 m6.n)), .c (.v (.bool m6.a0.v)), .c (.v (.string m6.a0.name)), .c (.v (.bool m6.a1.v)), .c (.v (.string m6.a1.name)), .c (.v (.bool m6.a2.v)), .c (.v (.string m6.a2.name)), .c (.v (.bool m6.a3.v)), .c (.v (.string m6.a3.name))] : List AV) ++ List.drop 11 (blC ruC (polS m1).rules) = blC ruC (polS m6).rules := rfl
  simp only [List.cons_append, List.nil_append] at st
  repeat (first | refine tr_seq_k fun _ _ => ?_ | (refine tr_draw (id := 6) follows 6 [2, 3, 6] [0, 1, 2, 3, 4, 5, 6] (by kernel_rfl) ?_; simp only [go_sem, List.getElem?_toArray, reduceCtorEq, Nat.reduceEqDiff, Nat.reduceLT, Nat.reduceBEq, ↓reduceIte, Bool.true_or, Bool.false_or, poW, plain_sl, one_max, b1, ixl]) | (refine call_of (cA) ?_ ?_; (first | rfl | simp only [go_sem, reduceCtorEq, Nat.reduceEqDiff, Nat.reduceLT, Nat.reduceLeDiff, Nat.reduceAdd, Nat.reduceMul, Nat.reduceSub, Nat.reduceBEq, ↓reduceIte, poW, plain_sl, one_max, b1, ixl, pl, le, st, shut_col]); simp only [go_sem, Nat.reduceAdd, Nat.reduceBEq, ↓reduceIte, Bool.true_or, Bool.false_or, pl, le, st]) | refine k_of (by assumption) ?_)
  refine tr_regionL [.s] ?_
  simp only [go_sem, reduceCtorEq, Nat.reduceEqDiff, Nat.reduceLT, Nat.reduceLeDiff, Nat.reduceAdd, ↓reduceIte, plain_sl]
  repeat (first | refine tr_seq_k fun _ _ => ?_ | (refine call_givesW (cK) ?_; (try dsimp only); (try simp only [go_sem, reduceCtorEq, Nat.reduceEqDiff, Nat.reduceLT, Nat.reduceLeDiff, Nat.reduceAdd, Nat.reduceMul, Nat.reduceSub, Nat.reduceBEq, ↓reduceIte])) | refine k_of (by assumption) ?_)
  clear cS cC cF cA cK
  have d1 := pA_does eAl eP (l1 nV0) n1 rfl (by kernel_rfl)
  have d2 := pA_does eAl eQ (l2 nV0 nV1) n2 rfl (by kernel_rfl)
  have d3 := pA_does eBo eQ (l2 nV0 nV1) n3 rfl (by kernel_rfl)
  have d4 := pA_does eCa eP (l1 nV0) n4 rfl (by kernel_rfl)
  have d5 := pA_does nA nOp (.sl true 0 []) n5 rfl (by kernel_rfl)
  have b4 : aBuildSlice Tryd.prog 33 4 [(0, .agg [.v (.string n1.says), .v (.string n1.pred), .v (.int .i64 n1.n), .v (.bool n1.a0.v), .v (.string n1.a0.name), .v (.bool n1.a1.v), .v (.string n1.a1.name), .v (.bool n1.a2.v), .v (.string n1.a2.name), .v (.bool n1.a3.v), .v (.string n1.a3.name)]), (1, .agg [.v (.string n2.says), .v (.string n2.pred), .v (.int .i64 n2.n), .v (.bool n2.a0.v), .v (.string n2.a0.name), .v (.bool n2.a1.v), .v (.string n2.a1.name), .v (.bool n2.a2.v), .v (.string n2.a2.name), .v (.bool n2.a3.v), .v (.string n2.a3.name)]), (2, .agg [.v (.string n3.says), .v (.string n3.pred), .v (.int .i64 n3.n), .v (.bool n3.a0.v), .v (.string n3.a0.name), .v (.bool n3.a1.v), .v (.string n3.a1.name), .v (.bool n3.a2.v), .v (.string n3.a2.name), .v (.bool n3.a3.v), .v (.string n3.a3.name)]), (3, .agg [.v (.string n4.says), .v (.string n4.pred), .v (.int .i64 n4.n), .v (.bool n4.a0.v), .v (.string n4.a0.name), .v (.bool n4.a1.v), .v (.string n4.a1.name), .v (.bool n4.a2.v), .v (.string n4.a2.name), .v (.bool n4.a3.v), .v (.string n4.a3.name)])] = some ([n1, n2, n3, n4].flatMap atC) := by
    simp only [aBuildSlice, Tryd.underlying33, sz39, ze39]
    rfl
  repeat (first | refine tr_seq_k fun _ _ => ?_ | (refine tr_region (id := 8) ?_; simp only [go_sem, reduceCtorEq, Nat.reduceEqDiff, Nat.reduceLT, ↓reduceIte, one_max, two_max, four_max]) | (refine call_of (d1) ?_ ?_; (first | rfl | simp only [go_sem]); simp only [go_sem]) | (refine call_of (d2) ?_ ?_; (first | rfl | simp only [go_sem]); simp only [go_sem]) | (refine call_of (d3) ?_ ?_; (first | rfl | simp only [go_sem]); simp only [go_sem]) | (refine call_of (d4) ?_ ?_; (first | rfl | simp only [go_sem, reduceCtorEq, Nat.reduceEqDiff, Nat.reduceLT, Nat.reduceLeDiff, Nat.reduceAdd, Nat.reduceMul, Nat.reduceSub, Nat.reduceBEq, ↓reduceIte, one_max, two_max, four_max, b4, shut_col]); simp only [go_sem, reduceCtorEq, Nat.reduceEqDiff, Nat.reduceLT, ↓reduceIte, b4]) | refine k_of (by assumption) ?_)
  have i0 : aIndexAddr Tryd.prog 31 (.c (slC clsC false [⟨m1, false, [m2, m3]⟩, ⟨m4, false, [m2, m5]⟩])) (.c (.v (.int .i64 0))) = some (.cptr (clsC ⟨m1, false, [m2, m3]⟩ ++ [(⟨m4, false, [m2, m5]⟩ : Cls)].flatMap clsC)) := idxCl (ex := false) (l := [⟨m1, false, [m2, m3]⟩, ⟨m4, false, [m2, m5]⟩]) (k := 0) (by decide)
  have i1 : aIndexAddr Tryd.prog 31 (.c (slC clsC false [⟨m1, false, [m2, m3]⟩, ⟨m4, false, [m2, m5]⟩])) (.c (.v (.int .i64 1))) = some (.cptr (clsC ⟨m4, false, [m2, m5]⟩ ++ ([] : List Cls).flatMap clsC)) := idxCl (ex := false) (l := [⟨m1, false, [m2, m3]⟩, ⟨m4, false, [m2, m5]⟩]) (k := 1) (by decide)
  have cT1 := text13_does ⟨m1, false, [m2, m3]⟩ z1 (fun a ha => by
    rcases List.mem_cons.1 ha with rfl | ha
    · exact z2
    · rw [List.mem_singleton] at ha; subst ha; exact z3) (by decide)
  have cT2 := text13_does ⟨m4, false, [m2, m5]⟩ z4 (fun a ha => by
    rcases List.mem_cons.1 ha with rfl | ha
    · exact z2
    · rw [List.mem_singleton] at ha; subst ha; exact z5) (by decide)
  have cT3 := text13_does ⟨n5, true, []⟩ (zz n5 (by decide +kernel)) (fun a ha => by cases ha) (by decide)
  rw [text_S1] at cT1
  rw [text_S2] at cT2
  rw [text_S3] at cT3
  have cSA := sameA_does [n1, n2, n3, n4] [n1, n2, n3, n4] false true (by decide)
  have cSS := sameS_does [nB] [nB] false true (by decide)
  rw [decide_eq_true rfl] at cSA cSS
  have cE := clauses13_does (p := ⟨true, [], true, [], true, [], 0, 0, true, [], true, []⟩) ⟨⟨by decide, by decide, by decide, fun _ h => (List.not_mem_nil h).elim, by decide, by decide, fun _ h => (List.not_mem_nil h).elim, fun _ h => (List.not_mem_nil h).elim⟩, by decide, by decide, fun _ h => (List.not_mem_nil h).elim, fun _ h => (List.not_mem_nil h).elim⟩
  rw [show clausesF ⟨true, [], true, [], true, [], 0, 0, true, [], true, []⟩ = [] from rfl] at cE
  refine tr_sub (fr' := [(2, .c (slC clsC false [⟨m1, false, [m2, m3]⟩, ⟨m4, false, [m2, m5]⟩])), (3, .c (slC atC false [n1, n2, n3, n4])), (4, .c (slC stC false [nB])), (5, .c (.sl true 4 ([n1, n2, n3, n4].flatMap atC)))]) (by exact ⟨rfl, rfl, rfl, rfl, trivial⟩) ?_
  have e2 : decide (((2 : Nat) : Int) = 2) = true := by decide
  have e0 : decide (((0 : Nat) : Int) = 0) = true := by decide
  have eT : ∀ s : ByteArray, decide (s = s) = true := fun s => decide_eq_true rfl
  repeat (first | (refine tr_region ?_; simp only [go_sem, List.getElem?_toArray, Nat.reduceEqDiff, Nat.reduceLT, Nat.reduceLeDiff, Nat.reduceAdd, ↓reduceIte, i0, clsC, e2]) | (refine call_of (cT1) ?_ ?_; (first | rfl | simp only [go_sem]); simp only [go_sem, str_beq, Nat.reduceEqDiff, Nat.reduceLT, Nat.reduceLeDiff, Nat.reduceAdd, ↓reduceIte, i1, clsC]) | (refine call_of (cT2) ?_ ?_; (first | rfl | simp only [go_sem]); simp only [go_sem, str_beq, Nat.reduceEqDiff, Nat.reduceLT, ↓reduceIte]) | (refine call_of (cT3) ?_ ?_; (first | rfl | simp only [go_sem, reduceCtorEq, Nat.reduceEqDiff, Nat.reduceLT, Nat.reduceLeDiff, Nat.reduceAdd, Nat.reduceMul, Nat.reduceSub, Nat.reduceBEq, ↓reduceIte, one_max, b1, i0, i1, clsC, e2, e0, eT, shut_col]); simp only [go_sem, str_beq, reduceCtorEq, Nat.reduceEqDiff, Nat.reduceLT, ↓reduceIte]) | (refine call_of (cSA) ?_ ?_; (first | rfl | simp only [go_sem, reduceCtorEq, Nat.reduceEqDiff, Nat.reduceLT, Nat.reduceLeDiff, Nat.reduceAdd, Nat.reduceMul, Nat.reduceSub, Nat.reduceBEq, ↓reduceIte, one_max, b1, i0, i1, clsC, e2, e0, eT, shut_col]); simp only [go_sem, Nat.reduceEqDiff, Nat.reduceLT, ↓reduceIte, one_max, b1]) | (refine call_of (cSS) ?_ ?_; (first | rfl | simp only [go_sem, reduceCtorEq, Nat.reduceEqDiff, Nat.reduceLT, Nat.reduceLeDiff, Nat.reduceAdd, Nat.reduceMul, Nat.reduceSub, Nat.reduceBEq, ↓reduceIte, one_max, b1, i0, i1, clsC, e2, e0, eT, shut_col]); simp only [go_sem, List.getElem?_toArray, Nat.reduceEqDiff, Nat.reduceLT, ↓reduceIte]) | (refine call_of (cE) ?_ ?_; (first | rfl | simp only [go_sem, reduceCtorEq, Nat.reduceEqDiff, Nat.reduceLT, Nat.reduceLeDiff, Nat.reduceAdd, Nat.reduceMul, Nat.reduceSub, Nat.reduceBEq, ↓reduceIte, one_max, b1, i0, i1, clsC, e2, e0, eT, shut_col]); simp only [go_sem, Nat.reduceEqDiff, Nat.reduceLT, Nat.reduceAdd, ↓reduceIte, e0]) | (refine call_of (d5) ?_ ?_; (first | rfl | simp only [go_sem, reduceCtorEq, Nat.reduceEqDiff, Nat.reduceLT, Nat.reduceLeDiff, Nat.reduceAdd, Nat.reduceMul, Nat.reduceSub, Nat.reduceBEq, ↓reduceIte, one_max, b1, i0, i1, clsC, e2, e0, eT, shut_col]); simp only [go_sem, Nat.reduceEqDiff, Nat.reduceLT, Nat.reduceLeDiff, Nat.reduceAdd, ↓reduceIte]) | refine k_of (by assumption) ?_ | (refine tr_ret ?_; try simp only [ex_seq_ret, ex_block_ret]))
  refine (hQ _ _ [bA true] ?_ (fun m => rfl)).2 <;> simp only [go_sem, reduceCtorEq, ↓reduceIte, Tryd.f3]
end Go.Proofs.YtinbfakpjnnagaaDoor
namespace Go.Vs.Ab
open Go.RowKit Go.Maps Go.ChangeShapes Go.WideShapes Go.Deep
theorem Reps.nil {X : Mem} : Reps X [] [] := ⟨rfl, fun i c x h => by simp at h⟩
theorem Reps.cons {X : Mem} {c : AV} {v : Value} {cs : List AV} {vs : List Value} (h : Rep X c v) (k : Reps X cs vs) : Reps X (c :: cs) (v :: vs) :=
  ⟨by simp [k.1], fun i d x h1 h2 => by
    cases i with
    | zero => simp at h1 h2; subst h1 h2; exact h
    | succ i => exact k.2 i d x (by simpa using h1) (by simpa using h2)⟩
theorem RepCs.nil {C : Nat → Nat → Option Value} : RepCs C [] [] := ⟨rfl, fun i c x h => by simp at h⟩
theorem RepCs.cons {C : Nat → Nat → Option Value} {c : CV} {v : Value} {cs : List CV} {vs : List Value} (h : RepC C c v) (k : RepCs C cs vs) : RepCs C (c :: cs) (v :: vs) :=
  ⟨by simp [k.1], fun i d x h1 h2 => by
    cases i with
    | zero => simp at h1 h2; subst h1 h2; exact h
    | succ i => exact k.2 i d x (by simpa using h1) (by simpa using h2)⟩
theorem RepCs.append {C : Nat → Nat → Option Value} {a b : List CV} {x y : List Value} (h : RepCs C a x) (k : RepCs C b y) : RepCs C (a ++ b) (x ++ y) := repcs_append h k
section
variable {H : Type} {enc : TypeId × Value → H} {P : Program} {w : World} {base b0 : Nat} {spare : Nat → Bool} {held : Bool} {r : Reach} {d : Nat} {t : TypeId} {v : Value} {x : DataW H} {ps : List MemPlace}
end
end Go.Vs.Ab
namespace Go.Proofs.YtinbfakpjnnagaaDoor.names
open Go.ChangeShapes Go.WideShapes Go.ChangeAt Go.RowKit Go.Vs Go.Vs.Ab
theorem own : ownKnob Tryd.prog.godebug = none := by kernel_rfl
theorem laidOut : laidOutB Tryd.prog = true := by kernel_rfl
theorem readable : (Tryd.f3.params.toList.all fun t => Tryd.prog.readableRec t && decide (t < Tryd.prog.types.size)) = true := by kernel_rfl
set_option maxRecDepth 100000 in
theorem door_met (os : Os) (args : Array Value) : laidMetH Tryd.prog Rows.desugarNamesRow.laid ((World.doorLaid Tryd.prog 400 os).forCall (fun _ _ => 0) ⟨#[], args, []⟩).memory :=
  laidMetH_of_parts3 (fuel := 8) (laidMet_of_run' 8 (by kernel_rfl) (by kernel_rfl)) (by kernel_rfl) (by kernel_rfl)
set_option maxRecDepth 100000 in
theorem lifted (os : Os) (started : os.Started) (H : Type) (enc : TypeId × Value → H) :
    ReturnsInHanded {} Tryd.checked os 3 .any (fun w args => (Rows.desugarNamesSpec.pre enc Tryd.prog Tryd.f3 [] false w args ∧ laidMetH Tryd.prog Rows.desugarNamesRow.laid w) ∧ sizedMet enc Tryd.prog Tryd.f3 (OpenSpec.ofChange Rows.desugarNamesSpec) false w args) (Rows.desugarNamesSpec.post enc Tryd.prog Tryd.f3 false true false false) := by
  refine returnsInHanded_of_change_and (C := Tryd.checked) (X := fun w _ => laidMetH Tryd.prog Rows.desugarNamesRow.laid w) (fun _ _ _ hh h => h.of_heap hh) own started (by kernel_rfl) Tryd.func3
    (ChangeSpec.witness_shaped (enc := enc) (C := Tryd.checked) (os := os) (X := fun w _ => laidMetH Tryd.prog Rows.desugarNamesRow.laid w) false (World.doorLaid Tryd.prog 400 os) #[] 8 rfl (World.shaped_of_RefB (by kernel_rfl) (by kernel_rfl)) (by kernel_rfl) (by kernel_rfl) (by kernel_rfl) (door_met os _)) ?_
  intro W base args ds gs before hval0 hW _ _ hL _
  have hval : ∀ (j : Nat) t v, Tryd.f3.params[j]? = some t → args[j]? = some v → Value.okWide Tryd.prog W .any base t v := hval0
  have hW' := hW
  obtain ⟨p, q, hA0, hV, rfl, hfz, hnd⟩ := hW
  have hA : DataW.TrodAll enc Tryd.prog W 0 (fun _ => true) true Tryd.f3.params.toList args.toList ds p := hA0
  rw [Tryd.params3] at hA
  obtain ⟨ha, rfl, rfl⟩ := trodAll_nil hA
  obtain rfl : args = #[] := by cases args; simp_all
  obtain ⟨rfl, rfl⟩ := trodVars_none hV
  refine ((dnames_does).bool Reps.nil).mono fun e W' ⟨he, hb⟩ => ?_
  subst he
  refine ⟨_, rfl, law_post (tb := 4) hW' rfl rfl laidOut (fun t ht => ?_) rfl Tryd.underlying4 hb⟩
  have := List.all_eq_true.1 readable t ht
  simp only [Bool.and_eq_true, decide_eq_true_eq] at this
  exact this
theorem row_holds : Rows.DesugarNamesSaid :=
  OpenClaim.holds_of_wide 3 Tryd.f3 rfl rfl rfl rfl rfl rfl rfl ⟨rfl, rfl, rfl, rfl, rfl⟩ rfl rfl rfl rfl rfl (by kernel_rfl) Tryd.func3 (by kernel_rfl)
    (of_decide_eq_true (by kernel_rfl)) (by unfold Func.isWrapper; first | (rw [if_pos (by decide +kernel)]; kernel_rfl) | (rw [if_neg (by decide +kernel)]; exact ⟨rfl, rfl⟩))
    (fun os started H enc _ => lifted os started H enc)
theorem holds : Rows.DesugarNamesCardSaid :=
  Claim7.holds_tied_plain_at .later [] [.data, .data, .data] true (true, "963274834c29515020171c993b941e7a10e01b05e8371d8107de3a81d269f6be") false
    row_holds (fun _ h => by cases h) (by kernel_rfl) (fun _ h => by cases h) desugarNames_row_tie rfl ⟨rfl, rfl⟩ (by kernel_rfl) rfl
    (fun f fn hf hfn => by
      obtain rfl : f = 3 := Option.some.inj ((show Tryd.prog.funcNamed "vouchsafe/vouchsafelaw13.DesugarNames" = some 3 by kernel_rfl).symm.trans hf) |>.symm
      obtain rfl : fn = Tryd.f3 := (Option.some.inj (Tryd.func3.symm.trans hfn)).symm
      exact ⟨by kernel_rfl, fun j t ht => by
        have hm : t ∈ Tryd.f3.params.toList := by simpa using Array.mem_of_getElem? ht
        have hall : (Tryd.f3.params.toList.all fun u => !Tryd.prog.wantsStandIn u) = true := by kernel_rfl
        exact (show Tryd.prog.wantsStandIn t = false by simpa using List.all_eq_true.1 hall t hm)⟩)
    (by kernel_rfl)
#print axioms holds
end Go.Proofs.YtinbfakpjnnagaaDoor.names
