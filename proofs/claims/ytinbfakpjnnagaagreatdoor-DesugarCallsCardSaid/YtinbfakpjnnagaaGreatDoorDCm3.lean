/-
  Part 3 of the proof's own texts: general lemmas and contracts of functions, laid one behind the other.
-/
import Derived.Test.YtinbfakpjnnagaaGreatDoorDCm2
import Derived.Test.YtinbfakpjnnagaaGreatDoorDCDg
import Derived.Test.YtinbfakpjnnagaaGreatDoorDCSub
import Derived.Sort.Walk0
set_option linter.unusedSimpArgs false
set_option linter.unusedVariables false
namespace Go.Proofs.YtinbfakpjnnagaaGreatDoor
open Go.RowKit Go.Vs Go.Vs.Ab Go.Vs.Sm
set_option maxRecDepth 100000
set_option maxHeartbeats 40000000
def symT3 (lt : Atm → Atm → Bool) (f : Nat) (l : List Atm) (mid e b : Nat) : List Atm := if mid < e ∧ e < b then symL lt f l mid e b else l
def symT2 (lt : Atm → Atm → Bool) (f : Nat) (l : List Atm) (a b mid R e : Nat) : List Atm := symT3 lt f (if a < R ∧ R < mid then symL lt f l a R mid else l) mid e b
theorem ite_len {T : Type} {n : Nat} (c : Prop) [Decidable c] (x y : List T) (h1 : x.length = n) (h2 : y.length = n) : (if c then x else y).length = n := by split <;> assumption
theorem ite_mem {T : Type} {u : T} {Q : Prop} (c : Prop) [Decidable c] (x y : List T) (h1 : u ∈ x → Q) (h2 : u ∈ y → Q) : u ∈ (if c then x else y) → Q := by split <;> assumption
theorem symL_len {T : Type} {lt : T → T → Bool} : ∀ (f : Nat) (l : List T) (a m b : Nat), (symL lt f l a m b).length = l.length
  | 0, _, _, _, _ => rfl
  | f + 1, l, a, m, b => by
    unfold symL
    split
    · rw [upL_len]
    · split
      · rw [downL_len]
      · dsimp only
        have q1 : ∀ (c : Prop) [Decidable c] (p q r : Nat), (if c then rotL m p l q r else l).length = l.length := fun c _ p q r => ite_len c _ _ (rotL_len _ _ _ _) rfl
        refine ite_len _ _ _ ?_ ?_
        · rw [symL_len f]
          exact ite_len _ _ _ (by rw [symL_len f]; exact q1 _ _ _ _) (q1 _ _ _ _)
        · exact ite_len _ _ _ (by rw [symL_len f]; exact q1 _ _ _ _) (q1 _ _ _ _)
theorem symL_mem {T : Type} {lt : T → T → Bool} {x : T} : ∀ (f : Nat) (l : List T) (a m b : Nat), x ∈ symL lt f l a m b → x ∈ l
  | 0, _, _, _, _, h => h
  | f + 1, l, a, m, b, h => by
    unfold symL at h
    split at h
    · exact upL_mem _ h
    · split at h
      · exact downL_mem _ h
      · dsimp only at h
        have q1 : ∀ (c : Prop) [Decidable c] (p q r : Nat), x ∈ (if c then rotL m p l q r else l) → x ∈ l := fun c _ p q r => ite_mem c _ _ (fun h => rotL_mem _ _ _ _ h) (fun h => h)
        refine ite_mem _ _ _ (fun h => ?_) (fun h => ?_) h
        · exact ite_mem _ _ _ (fun h => q1 _ _ _ _ (symL_mem f _ _ _ _ h)) (fun h => q1 _ _ _ _ h) (symL_mem f _ _ _ _ h)
        · exact ite_mem _ _ _ (fun h => q1 _ _ _ _ (symL_mem f _ _ _ _ h)) (fun h => q1 _ _ _ _ h) h
theorem symC (f : Nat) (ih : ∀ (l : List Atm) (a m b : Nat) (hw : List Hw), a < m → m < b → b ≤ l.length → l.length ≤ 1000000 → b - a ≤ f → (∀ x ∈ l, AtSz x) → GivesW Tryz.prog 93 [.lsl 0 0 l.length 11, iA a, iA m, iA b, cmpF] ⟨[⟨false, blC atC l⟩], hw⟩ (.tup []) ⟨[⟨false, blC atC (symL ltA f l a m b)⟩], hw⟩)
    (l : List Atm) (a m b : Nat) (hw : List Hw) (ham : a < m) (hmb : m < b) (hbl : b ≤ l.length) (hl : l.length ≤ 1000000) (hf1 : b - a ≤ f + 1) (hsz : ∀ x ∈ l, AtSz x) (h1 : ¬ m - a = 1) (h2 : ¬ b - m = 1) : GivesW Tryz.prog 93 [.lsl 0 0 l.length 11, iA a, iA m, iA b, cmpF] ⟨[⟨false, blC atC l⟩], hw⟩ (.tup []) ⟨[⟨false, blC atC (symL ltA (f + 1) l a m b)⟩], hw⟩ := by
  obtain ⟨T, hT0⟩ : ∃ T, T = symL ltA (f + 1) l a m b := ⟨_, rfl⟩
  rw [← hT0]
  unfold symL at hT0
  rw [if_neg h1, if_neg h2] at hT0
  have cu := cvU (a + b) (by omega)
  have sh := shO (a + b)
  have ci := cvI ((a + b) / 2) (by omega)
  have hm1 : 2 * ((a + b) / 2) ≤ a + b ∧ a + b < 2 * ((a + b) / 2) + 2 := by omega
  generalize (a + b) / 2 = mid at *
  dsimp only at hT0
  have w3 := wrap_addN (show a + b ≤ 1000000000 by omega)
  have w4 := wrap_addN (show mid + m ≤ 1000000000 by omega)
  have w1 := wrap_subN (show a ≤ m by omega) (by omega)
  have e0 : decide (((m - a : Nat) : Int) = 1) = false := decide_eq_false (by omega)
  have e0' : (((m - a : Nat) : Int) == 1) = false := by rw [beq_eq_false_iff_ne]; omega
  have w2 := wrap_subN (show m ≤ b by omega) (by omega)
  have e1 : decide (((b - m : Nat) : Int) = 1) = false := decide_eq_false (by omega)
  have e1' : (((b - m : Nat) : Int) == 1) = false := by rw [beq_eq_false_iff_ne]; omega
  obtain ⟨nn, hnn⟩ : ∃ nn, nn = mid + m := ⟨_, rfl⟩
  rw [← hnn] at hT0 w4
  have w6 := wrap_pre (show 0 < nn by omega) (by omega)
  by_cases hmm : mid < m
  · rw [if_pos hmm, if_pos hmm] at hT0
    obtain ⟨R, hR⟩ : ∃ R, R = bs (fun c => !ltAt ltA l (nn - 1 - c) c) (mid - (nn - b) + 1) (nn - b) mid := ⟨_, rfl⟩
    have hTT : ∀ S, S = R → T = symT2 ltA f (if S < m ∧ m < nn - S then rotL m (nn - S - S) l (m - S) (nn - S - m) else l) a b mid S (nn - S) := fun S hS => by rw [hS, hR]; exact hT0
    clear hT0
    have q0 : decide ((m : Int) > (mid : Int)) = true := decide_eq_true (by omega)
    have w5 := wrap_subN (show b ≤ nn by omega) (by omega)
    obtain ⟨s0, hs0⟩ : ∃ s0, s0 = nn - b := ⟨_, rfl⟩
    rw [← hs0] at hR w5
    refine givesW_of' Tryz.func93 rfl (by kernel_rfl) Tryz.ntmps93 rfl rfl fun Q hQ => ?_
    repeat (first | refine tr_seq_k fun _ _ => ?_ | (refine tr_region ?_; simp only [go_sem, reduceCtorEq, Nat.reduceEqDiff, Nat.reduceLT, Nat.reduceAdd, ↓reduceIte, w1, e0']) | refine k_of (by assumption) ?_)
    refine tr_cond rfl (fun ht => ?_) (fun hf => ?_)
    · cases ht
    · repeat (first | refine tr_seq_k fun _ _ => ?_ | (refine tr_region ?_; simp only [go_sem, reduceCtorEq, Nat.reduceEqDiff, Nat.reduceLT, ↓reduceIte, w2, e1']) | refine k_of (by assumption) ?_ | (refine tr_skip ?_; try simp only [ex_seq]))
      refine tr_cond rfl (fun ht => ?_) (fun hf => ?_)
      · cases ht
      · repeat (first | refine tr_seq_k fun _ _ => ?_ | (refine tr_region ?_; simp only [go_sem, reduceCtorEq, Nat.reduceEqDiff, Nat.reduceLT, ↓reduceIte, w3, cu, sh, ci, w4, q0]) | refine k_of (by assumption) ?_ | (refine tr_skip ?_; try simp only [ex_seq]))
        refine tr_cond rfl (fun ht => ?_) (fun hf => ?_)
        · repeat (first | refine tr_seq_k fun _ _ => ?_ | (refine tr_region ?_; simp only [go_sem, reduceCtorEq, Nat.reduceEqDiff, Nat.reduceLT, ↓reduceIte, w5, w6]) | refine k_of (by assumption) ?_ | refine tr_block ?_)
          refine tr_loop_k (σ := Nat × Nat × Nat) (fun q => [(0, .lsl 0 0 l.length 11), (1, iA a), (2, iA m), (3, iA b), (4, cmpF), (18, iA mid), (19, iA nn), (22, iA ((nn - 1 : Nat) : Int)), (20, iA q.2.1), (21, iA q.2.2)]) (fun q => ⟨[⟨false, blC atC l⟩], hw⟩)
            (fun q => R = bs (fun c => !ltAt ltA l (nn - 1 - c) c) (q.1 + 1) q.2.1 q.2.2 ∧ s0 ≤ q.2.1 ∧ q.2.1 ≤ q.2.2 ∧ q.2.2 ≤ mid ∧ q.2.2 - q.2.1 ≤ q.1) (fun q => q.2.2 - q.2.1) (mid - s0, s0, mid) ⟨hR, Nat.le_refl _, by dsimp only; omega, Nat.le_refl _, Nat.le_refl _⟩ ⟨rfl, rfl, rfl, rfl, rfl, rfl, rfl, rfl, rfl, rfl, trivial⟩ rfl ?_
          rintro ⟨g, i, j⟩ ⟨hRR, hmi, hij, hjb, hg⟩ K hK
          dsimp only at hRR hmi hij hjb hg ⊢
          by_cases hlt : i < j
          · have q1 : decide ((i : Int) < (j : Int)) = true := decide_eq_true (by omega)
            obtain ⟨g, rfl⟩ : ∃ z, g = z + 1 := ⟨g - 1, by omega⟩
            have w2 := wrap_addN (show i + j ≤ 1000000000 by omega)
            have w2b : i + j ≤ 1000000000 := by omega
            have w2c : (i + j) / 2 ≤ 1000000000 := by omega
            have hR2 := bs_hit hRR hlt
            have hh1 : i ≤ (i + j) / 2 := by omega
            have hh2 : (i + j) / 2 < j := by omega
            have sh := shO (i + j)
            have cu := cvU _ w2b
            have ci := cvI _ w2c
            generalize (i + j) / 2 = h at *
            have ws := wrap_succ (show h ≤ 1000000000 by omega)
            have wp := wrap_subN (show h ≤ nn - 1 by omega) (by omega)
            have hx : nn - 1 - h < l.length := by omega
            have hy : h < l.length := by omega
            have cC := cmpA_does l[nn - 1 - h] l[h] (hsz _ (List.getElem_mem hx)) (hsz _ (List.getElem_mem hy))
            have hlt2 := cmpA_lt l[nn - 1 - h] l[h]
            have d1 := drLA hx
            have d2 := drLA hy
            rw [ltAt_eq hx hy] at hR2
            cases hz : ltA l[nn - 1 - h] l[h] with
            | true =>
              rw [hz] at hlt2 hR2
              rw [if_neg (by decide)] at hR2
              repeat (first | refine tr_seq_k fun _ _ => ?_ | (refine tr_region ?_; simp only [go_sem, reduceCtorEq, Nat.reduceEqDiff, Nat.reduceLT, ↓reduceIte, q1]) | refine k_of (by assumption) ?_)
              refine tr_cond rfl (fun ht => ?_) (fun hf => ?_)
              · repeat (first | refine tr_seq_k fun _ _ => ?_ | (refine tr_region ?_; simp only [go_sem, reduceCtorEq, Nat.reduceEqDiff, Nat.reduceLT, ↓reduceIte, w2, cu, ci, sh]) | (refine tr_draw (id := 35) follows 10000 [11] [0, 1, 2, 3, 4, 5, 6, 7, 8, 9, 10, 11, 12, 13] (by kernel_rfl) ?_; simp only [go_sem, List.getElem?_toArray, reduceCtorEq, Nat.reduceEqDiff, Nat.reduceLT, ↓reduceIte, wp, ixLA hx, ixLA hy, d1, d2, fitLA hx, fitLA hy]) | (refine call_of (cC) ?_ ?_; (first | rfl | simp only [go_sem, reduceCtorEq, Nat.reduceEqDiff, Nat.reduceLT, Nat.reduceLeDiff, Nat.reduceAdd, Nat.reduceMul, Nat.reduceSub, Nat.reduceBEq, ↓reduceIte, w2, cu, ci, sh, wp, ixLA hx, ixLA hy, d1, d2, fitLA hx, fitLA hy, hlt2, shut_col]); simp only [go_sem, reduceCtorEq, Nat.reduceEqDiff, Nat.reduceLT, ↓reduceIte, Bool.true_or, hlt2]) | refine k_of (by assumption) ?_ | refine tr_block ?_ | (refine tr_skip ?_; try simp only [ex_seq]))
                refine tr_cond rfl (fun ht => ?_) (fun hf => ?_)
                · cases ht
                · repeat ((refine tr_region ?_; simp only [go_sem, reduceCtorEq, Nat.reduceEqDiff, Nat.reduceLT, ↓reduceIte]))
                  exact hK (g, i, h) _ _ ⟨hR2, by dsimp only; omega, by dsimp only; omega, by dsimp only; omega, by dsimp only; omega⟩ ⟨⟨rfl, rfl, rfl, rfl, rfl, rfl, rfl, rfl, rfl, rfl, trivial⟩, Keep.refl _, rfl, by simp only [lowB, lows_blC]; rfl, Nat.le_refl _, Nat.le_refl _⟩ (by dsimp only; omega)
              · cases hf
            | false =>
              rw [hz] at hlt2 hR2
              rw [if_pos (by decide)] at hR2
              repeat (first | refine tr_seq_k fun _ _ => ?_ | (refine tr_region ?_; simp only [go_sem, reduceCtorEq, Nat.reduceEqDiff, Nat.reduceLT, ↓reduceIte, q1]) | refine k_of (by assumption) ?_)
              refine tr_cond rfl (fun ht => ?_) (fun hf => ?_)
              · repeat (first | refine tr_seq_k fun _ _ => ?_ | (refine tr_region ?_; simp only [go_sem, reduceCtorEq, Nat.reduceEqDiff, Nat.reduceLT, ↓reduceIte, w2, cu, ci, sh]) | (refine tr_draw (id := 35) follows 10000 [11] [0, 1, 2, 3, 4, 5, 6, 7, 8, 9, 10, 11, 12, 13] (by kernel_rfl) ?_; simp only [go_sem, List.getElem?_toArray, reduceCtorEq, Nat.reduceEqDiff, Nat.reduceLT, ↓reduceIte, wp, ixLA hx, ixLA hy, d1, d2, fitLA hx, fitLA hy]) | (refine call_of (cC) ?_ ?_; (first | rfl | simp only [go_sem, reduceCtorEq, Nat.reduceEqDiff, Nat.reduceLT, Nat.reduceLeDiff, Nat.reduceAdd, Nat.reduceMul, Nat.reduceSub, Nat.reduceBEq, ↓reduceIte, w2, cu, ci, sh, wp, ixLA hx, ixLA hy, d1, d2, fitLA hx, fitLA hy, hlt2, shut_col]); simp only [go_sem, reduceCtorEq, Nat.reduceEqDiff, Nat.reduceLT, ↓reduceIte, Bool.true_or, hlt2]) | refine k_of (by assumption) ?_ | refine tr_block ?_ | (refine tr_skip ?_; try simp only [ex_seq]))
                refine tr_cond rfl (fun ht => ?_) (fun hf => ?_)
                · repeat ((refine tr_region ?_; simp only [go_sem, reduceCtorEq, Nat.reduceEqDiff, Nat.reduceLT, ↓reduceIte, ws]))
                  exact hK (g, h + 1, j) _ _ ⟨hR2, by dsimp only; omega, by dsimp only; omega, by dsimp only; omega, by dsimp only; omega⟩ ⟨⟨rfl, rfl, rfl, rfl, rfl, rfl, rfl, rfl, rfl, rfl, trivial⟩, Keep.refl _, rfl, by simp only [lowB, lows_blC]; rfl, Nat.le_refl _, Nat.le_refl _⟩ (by dsimp only; omega)
                · cases hf
              · cases hf
          · have q1 : decide ((i : Int) < (j : Int)) = false := decide_eq_false (by omega)
            obtain rfl : R = i := bs_end hRR hlt
            repeat (first | refine tr_seq_k fun _ _ => ?_ | (refine tr_region ?_; simp only [go_sem, reduceCtorEq, Nat.reduceEqDiff, Nat.reduceLT, ↓reduceIte, q1]) | refine k_of (by assumption) ?_)
            refine tr_cond rfl (fun ht => ?_) (fun hf => ?_)
            · cases ht
            · have hRm : s0 ≤ R := hmi
              have hRr : R ≤ mid := by omega
              have w7 := wrap_subN (show R ≤ nn by omega) (by omega)
              have hT := hTT R rfl
              obtain ⟨e, he⟩ : ∃ e, e = nn - R := ⟨_, rfl⟩
              rw [← he] at w7 hT
              by_cases c1 : R < m
              · by_cases c2 : m < e
                · have d1 : decide ((R : Int) < (m : Int)) = true := decide_eq_true (by omega)
                  have d2 : decide ((m : Int) < (e : Int)) = true := decide_eq_true (by omega)
                  rw [if_pos ⟨c1, c2⟩] at hT
                  have cS1 := rot_gives l R m e hw c1 c2 (by omega) (by omega)
                  obtain ⟨l1, hl1⟩ : ∃ l1, l1 = rotL m (e - R) l (m - R) (e - m) := ⟨_, rfl⟩
                  rw [← hl1] at cS1 hT
                  have hl1n : l1.length = l.length := by rw [hl1, rotL_len]
                  have hl1s : ∀ x ∈ l1, AtSz x := fun x hx => hsz x (rotL_mem _ _ _ _ (hl1 ▸ hx))
                  clear hl1
                  repeat (first | refine tr_seq_k fun _ _ => ?_ | (refine tr_region ?_; simp only [go_sem, List.getElem?_toArray, reduceCtorEq, Nat.reduceEqDiff, Nat.reduceLT, ↓reduceIte, w7, d1, d2]) | refine k_of (by assumption) ?_ | (refine tr_exit ?_; try simp only [ex_seq_exit, ex_block_exit, ex_seq, ↓reduceIte]))
                  refine tr_cond rfl (fun ht => ?_) (fun hf => ?_)
                  · clear d1 d2
                    unfold symT2 at hT
                    by_cases c1 : a < R
                    · by_cases c2 : R < mid
                      · have d1 : decide ((a : Int) < (R : Int)) = true := decide_eq_true (by omega)
                        have d2 : decide ((R : Int) < (mid : Int)) = true := decide_eq_true (by omega)
                        rw [if_pos ⟨c1, c2⟩] at hT
                        have cS2 := ih l1 a R mid hw c1 c2 (by omega) (by omega) (by omega) hl1s
                        obtain ⟨l2, hl2⟩ : ∃ l2, l2 = symL ltA f l1 a R mid := ⟨_, rfl⟩
                        rw [← hl2] at cS2 hT
                        have hl2n : l2.length = l.length := by rw [hl2, symL_len]; exact hl1n
                        have hl2s : ∀ x ∈ l2, AtSz x := fun x hx => hl1s x (symL_mem _ _ _ _ _ (hl2 ▸ hx))
                        rw [hl1n] at cS2
                        clear hl2
                        repeat (first | refine tr_seq_k fun _ _ => ?_ | (refine tr_region ?_; simp only [go_sem, List.getElem?_toArray, reduceCtorEq, Nat.reduceEqDiff, Nat.reduceLT, ↓reduceIte, d1, d2]) | (refine call_givesW (cS1) ?_; (try dsimp only); (try simp only [go_sem, reduceCtorEq, Nat.reduceEqDiff, Nat.reduceLT, Nat.reduceLeDiff, Nat.reduceAdd, Nat.reduceMul, Nat.reduceSub, Nat.reduceBEq, ↓reduceIte, d1, d2])) | refine k_of (by assumption) ?_)
                        refine tr_cond rfl (fun ht => ?_) (fun hf => ?_)
                        · clear d1 d2
                          unfold symT3 at hT
                          by_cases c1 : mid < e
                          · by_cases c2 : e < b
                            · have d1 : decide ((mid : Int) < (e : Int)) = true := decide_eq_true (by omega)
                              have d2 : decide ((e : Int) < (b : Int)) = true := decide_eq_true (by omega)
                              rw [if_pos ⟨c1, c2⟩] at hT
                              have cS3 := ih l2 mid e b hw c1 c2 (by omega) (by omega) (by omega) hl2s
                              obtain ⟨l3, hl3⟩ : ∃ l3, l3 = symL ltA f l2 mid e b := ⟨_, rfl⟩
                              rw [← hl3] at cS3 hT
                              have hl3n : l3.length = l.length := by rw [hl3, symL_len]; exact hl2n
                              have hl3s : ∀ x ∈ l3, AtSz x := fun x hx => hl2s x (symL_mem _ _ _ _ _ (hl3 ▸ hx))
                              rw [hl2n] at cS3
                              clear hl3
                              repeat (first | refine tr_seq_k fun _ _ => ?_ | (refine tr_region ?_; simp only [go_sem, List.getElem?_toArray, reduceCtorEq, Nat.reduceEqDiff, Nat.reduceLT, ↓reduceIte, d1, d2]) | (refine call_givesW (cS2) ?_; (try dsimp only); (try simp only [go_sem, reduceCtorEq, Nat.reduceEqDiff, Nat.reduceLT, Nat.reduceLeDiff, Nat.reduceAdd, Nat.reduceMul, Nat.reduceSub, Nat.reduceBEq, ↓reduceIte, d1, d2])) | refine k_of (by assumption) ?_)
                              refine tr_cond rfl (fun ht => ?_) (fun hf => ?_)
                              · clear d1 d2
                                repeat (first | (refine tr_region ?_; simp only [go_sem, reduceCtorEq, Nat.reduceEqDiff, Nat.reduceLT, ↓reduceIte]) | (refine call_givesW (cS3) ?_; (try dsimp only); (try simp only [go_sem, reduceCtorEq, Nat.reduceEqDiff, Nat.reduceLT, Nat.reduceLeDiff, Nat.reduceAdd, Nat.reduceMul, Nat.reduceSub, Nat.reduceBEq, ↓reduceIte])))
                                exact (hQ _ _ [] rfl rfl (by rw [hT])).1
                              · cases hf
                            · have d1 : decide ((mid : Int) < (e : Int)) = true := decide_eq_true (by omega)
                              have d2 : decide ((e : Int) < (b : Int)) = false := decide_eq_false (by omega)
                              rw [if_neg (fun h => c2 h.2)] at hT
                              repeat (first | refine tr_seq_k fun _ _ => ?_ | (refine tr_region ?_; simp only [go_sem, List.getElem?_toArray, reduceCtorEq, Nat.reduceEqDiff, Nat.reduceLT, ↓reduceIte, d1, d2]) | (refine call_givesW (cS2) ?_; (try dsimp only); (try simp only [go_sem, reduceCtorEq, Nat.reduceEqDiff, Nat.reduceLT, Nat.reduceLeDiff, Nat.reduceAdd, Nat.reduceMul, Nat.reduceSub, Nat.reduceBEq, ↓reduceIte, d1, d2])) | refine k_of (by assumption) ?_)
                              refine tr_cond rfl (fun ht => ?_) (fun hf => ?_)
                              · cases ht
                              · clear d1 d2
                                repeat ((refine tr_skip ?_; try simp only [ex_seq, ex_block]))
                                exact (hQ _ _ [] rfl rfl (by rw [hT])).1
                          · have d1 : decide ((mid : Int) < (e : Int)) = false := decide_eq_false (by omega)
                            rw [if_neg (fun h => c1 h.1)] at hT
                            repeat (first | refine tr_seq_k fun _ _ => ?_ | (refine tr_region ?_; simp only [go_sem, List.getElem?_toArray, reduceCtorEq, Nat.reduceEqDiff, Nat.reduceLT, ↓reduceIte, d1]) | (refine call_givesW (cS2) ?_; (try dsimp only); (try simp only [go_sem, reduceCtorEq, Nat.reduceEqDiff, Nat.reduceLT, Nat.reduceLeDiff, Nat.reduceAdd, Nat.reduceMul, Nat.reduceSub, Nat.reduceBEq, ↓reduceIte, d1])) | refine k_of (by assumption) ?_)
                            refine tr_cond rfl (fun ht => ?_) (fun hf => ?_)
                            · cases ht
                            · clear d1
                              repeat ((refine tr_skip ?_; try simp only [ex_seq, ex_block]))
                              exact (hQ _ _ [] rfl rfl (by rw [hT])).1
                        · cases hf
                      · have d1 : decide ((a : Int) < (R : Int)) = true := decide_eq_true (by omega)
                        have d2 : decide ((R : Int) < (mid : Int)) = false := decide_eq_false (by omega)
                        rw [if_neg (fun h => c2 h.2)] at hT
                        repeat (first | refine tr_seq_k fun _ _ => ?_ | (refine tr_region ?_; simp only [go_sem, List.getElem?_toArray, reduceCtorEq, Nat.reduceEqDiff, Nat.reduceLT, ↓reduceIte, d1, d2]) | (refine call_givesW (cS1) ?_; (try dsimp only); (try simp only [go_sem, reduceCtorEq, Nat.reduceEqDiff, Nat.reduceLT, Nat.reduceLeDiff, Nat.reduceAdd, Nat.reduceMul, Nat.reduceSub, Nat.reduceBEq, ↓reduceIte, d1, d2])) | refine k_of (by assumption) ?_)
                        refine tr_cond rfl (fun ht => ?_) (fun hf => ?_)
                        · cases ht
                        · clear d1 d2
                          unfold symT3 at hT
                          by_cases c1 : mid < e
                          · by_cases c2 : e < b
                            · have d1 : decide ((mid : Int) < (e : Int)) = true := decide_eq_true (by omega)
                              have d2 : decide ((e : Int) < (b : Int)) = true := decide_eq_true (by omega)
                              rw [if_pos ⟨c1, c2⟩] at hT
                              have cS3 := ih l1 mid e b hw c1 c2 (by omega) (by omega) (by omega) hl1s
                              obtain ⟨l3, hl3⟩ : ∃ l3, l3 = symL ltA f l1 mid e b := ⟨_, rfl⟩
                              rw [← hl3] at cS3 hT
                              have hl3n : l3.length = l.length := by rw [hl3, symL_len]; exact hl1n
                              have hl3s : ∀ x ∈ l3, AtSz x := fun x hx => hl1s x (symL_mem _ _ _ _ _ (hl3 ▸ hx))
                              rw [hl1n] at cS3
                              clear hl3
                              repeat (first | refine tr_seq_k fun _ _ => ?_ | (refine tr_region ?_; simp only [go_sem, List.getElem?_toArray, reduceCtorEq, Nat.reduceEqDiff, Nat.reduceLT, ↓reduceIte, d1, d2]) | refine k_of (by assumption) ?_ | (refine tr_skip ?_; try simp only [ex_seq]))
                              refine tr_cond rfl (fun ht => ?_) (fun hf => ?_)
                              · clear d1 d2
                                repeat (first | (refine tr_region ?_; simp only [go_sem, reduceCtorEq, Nat.reduceEqDiff, Nat.reduceLT, ↓reduceIte]) | (refine call_givesW (cS3) ?_; (try dsimp only); (try simp only [go_sem, reduceCtorEq, Nat.reduceEqDiff, Nat.reduceLT, Nat.reduceLeDiff, Nat.reduceAdd, Nat.reduceMul, Nat.reduceSub, Nat.reduceBEq, ↓reduceIte])))
                                exact (hQ _ _ [] rfl rfl (by rw [hT])).1
                              · cases hf
                            · have d1 : decide ((mid : Int) < (e : Int)) = true := decide_eq_true (by omega)
                              have d2 : decide ((e : Int) < (b : Int)) = false := decide_eq_false (by omega)
                              rw [if_neg (fun h => c2 h.2)] at hT
                              repeat (first | refine tr_seq_k fun _ _ => ?_ | (refine tr_region ?_; simp only [go_sem, List.getElem?_toArray, reduceCtorEq, Nat.reduceEqDiff, Nat.reduceLT, ↓reduceIte, d1, d2]) | refine k_of (by assumption) ?_ | (refine tr_skip ?_; try simp only [ex_seq]))
                              refine tr_cond rfl (fun ht => ?_) (fun hf => ?_)
                              · cases ht
                              · clear d1 d2
                                repeat ((refine tr_skip ?_; try simp only [ex_seq, ex_block]))
                                exact (hQ _ _ [] rfl rfl (by rw [hT])).1
                          · have d1 : decide ((mid : Int) < (e : Int)) = false := decide_eq_false (by omega)
                            rw [if_neg (fun h => c1 h.1)] at hT
                            repeat (first | refine tr_seq_k fun _ _ => ?_ | (refine tr_region ?_; simp only [go_sem, List.getElem?_toArray, reduceCtorEq, Nat.reduceEqDiff, Nat.reduceLT, ↓reduceIte, d1]) | refine k_of (by assumption) ?_ | (refine tr_skip ?_; try simp only [ex_seq]))
                            refine tr_cond rfl (fun ht => ?_) (fun hf => ?_)
                            · cases ht
                            · clear d1
                              repeat ((refine tr_skip ?_; try simp only [ex_seq, ex_block]))
                              exact (hQ _ _ [] rfl rfl (by rw [hT])).1
                    · have d1 : decide ((a : Int) < (R : Int)) = false := decide_eq_false (by omega)
                      rw [if_neg (fun h => c1 h.1)] at hT
                      repeat (first | refine tr_seq_k fun _ _ => ?_ | (refine tr_region ?_; simp only [go_sem, List.getElem?_toArray, reduceCtorEq, Nat.reduceEqDiff, Nat.reduceLT, ↓reduceIte, d1]) | (refine call_givesW (cS1) ?_; (try dsimp only); (try simp only [go_sem, reduceCtorEq, Nat.reduceEqDiff, Nat.reduceLT, Nat.reduceLeDiff, Nat.reduceAdd, Nat.reduceMul, Nat.reduceSub, Nat.reduceBEq, ↓reduceIte, d1])) | refine k_of (by assumption) ?_)
                      refine tr_cond rfl (fun ht => ?_) (fun hf => ?_)
                      · cases ht
                      · clear d1
                        unfold symT3 at hT
                        by_cases c1 : mid < e
                        · by_cases c2 : e < b
                          · have d1 : decide ((mid : Int) < (e : Int)) = true := decide_eq_true (by omega)
                            have d2 : decide ((e : Int) < (b : Int)) = true := decide_eq_true (by omega)
                            rw [if_pos ⟨c1, c2⟩] at hT
                            have cS3 := ih l1 mid e b hw c1 c2 (by omega) (by omega) (by omega) hl1s
                            obtain ⟨l3, hl3⟩ : ∃ l3, l3 = symL ltA f l1 mid e b := ⟨_, rfl⟩
                            rw [← hl3] at cS3 hT
                            have hl3n : l3.length = l.length := by rw [hl3, symL_len]; exact hl1n
                            have hl3s : ∀ x ∈ l3, AtSz x := fun x hx => hl1s x (symL_mem _ _ _ _ _ (hl3 ▸ hx))
                            rw [hl1n] at cS3
                            clear hl3
                            repeat (first | refine tr_seq_k fun _ _ => ?_ | (refine tr_region ?_; simp only [go_sem, List.getElem?_toArray, reduceCtorEq, Nat.reduceEqDiff, Nat.reduceLT, ↓reduceIte, d1, d2]) | refine k_of (by assumption) ?_ | (refine tr_skip ?_; try simp only [ex_seq]))
                            refine tr_cond rfl (fun ht => ?_) (fun hf => ?_)
                            · clear d1 d2
                              repeat (first | (refine tr_region ?_; simp only [go_sem, reduceCtorEq, Nat.reduceEqDiff, Nat.reduceLT, ↓reduceIte]) | (refine call_givesW (cS3) ?_; (try dsimp only); (try simp only [go_sem, reduceCtorEq, Nat.reduceEqDiff, Nat.reduceLT, Nat.reduceLeDiff, Nat.reduceAdd, Nat.reduceMul, Nat.reduceSub, Nat.reduceBEq, ↓reduceIte])))
                              exact (hQ _ _ [] rfl rfl (by rw [hT])).1
                            · cases hf
                          · have d1 : decide ((mid : Int) < (e : Int)) = true := decide_eq_true (by omega)
                            have d2 : decide ((e : Int) < (b : Int)) = false := decide_eq_false (by omega)
                            rw [if_neg (fun h => c2 h.2)] at hT
                            repeat (first | refine tr_seq_k fun _ _ => ?_ | (refine tr_region ?_; simp only [go_sem, List.getElem?_toArray, reduceCtorEq, Nat.reduceEqDiff, Nat.reduceLT, ↓reduceIte, d1, d2]) | refine k_of (by assumption) ?_ | (refine tr_skip ?_; try simp only [ex_seq]))
                            refine tr_cond rfl (fun ht => ?_) (fun hf => ?_)
                            · cases ht
                            · clear d1 d2
                              repeat ((refine tr_skip ?_; try simp only [ex_seq, ex_block]))
                              exact (hQ _ _ [] rfl rfl (by rw [hT])).1
                        · have d1 : decide ((mid : Int) < (e : Int)) = false := decide_eq_false (by omega)
                          rw [if_neg (fun h => c1 h.1)] at hT
                          repeat (first | refine tr_seq_k fun _ _ => ?_ | (refine tr_region ?_; simp only [go_sem, List.getElem?_toArray, reduceCtorEq, Nat.reduceEqDiff, Nat.reduceLT, ↓reduceIte, d1]) | refine k_of (by assumption) ?_ | (refine tr_skip ?_; try simp only [ex_seq]))
                          refine tr_cond rfl (fun ht => ?_) (fun hf => ?_)
                          · cases ht
                          · clear d1
                            repeat ((refine tr_skip ?_; try simp only [ex_seq, ex_block]))
                            exact (hQ _ _ [] rfl rfl (by rw [hT])).1
                  · cases hf
                · have d1 : decide ((R : Int) < (m : Int)) = true := decide_eq_true (by omega)
                  have d2 : decide ((m : Int) < (e : Int)) = false := decide_eq_false (by omega)
                  rw [if_neg (fun h => c2 h.2)] at hT
                  repeat (first | refine tr_seq_k fun _ _ => ?_ | (refine tr_region ?_; simp only [go_sem, List.getElem?_toArray, reduceCtorEq, Nat.reduceEqDiff, Nat.reduceLT, ↓reduceIte, w7, d1, d2]) | refine k_of (by assumption) ?_ | (refine tr_exit ?_; try simp only [ex_seq_exit, ex_block_exit, ex_seq, ↓reduceIte]))
                  refine tr_cond rfl (fun ht => ?_) (fun hf => ?_)
                  · cases ht
                  · clear d1 d2
                    unfold symT2 at hT
                    by_cases c1 : a < R
                    · by_cases c2 : R < mid
                      · have d1 : decide ((a : Int) < (R : Int)) = true := decide_eq_true (by omega)
                        have d2 : decide ((R : Int) < (mid : Int)) = true := decide_eq_true (by omega)
                        rw [if_pos ⟨c1, c2⟩] at hT
                        have cS2 := ih l a R mid hw c1 c2 (by omega) (by omega) (by omega) hsz
                        obtain ⟨l2, hl2⟩ : ∃ l2, l2 = symL ltA f l a R mid := ⟨_, rfl⟩
                        rw [← hl2] at cS2 hT
                        have hl2n : l2.length = l.length := by rw [hl2, symL_len]
                        have hl2s : ∀ x ∈ l2, AtSz x := fun x hx => hsz x (symL_mem _ _ _ _ _ (hl2 ▸ hx))
                        clear hl2
                        repeat (first | refine tr_seq_k fun _ _ => ?_ | (refine tr_region ?_; simp only [go_sem, List.getElem?_toArray, reduceCtorEq, Nat.reduceEqDiff, Nat.reduceLT, ↓reduceIte, d1, d2]) | refine k_of (by assumption) ?_ | (refine tr_skip ?_; try simp only [ex_seq]))
                        refine tr_cond rfl (fun ht => ?_) (fun hf => ?_)
                        · clear d1 d2
                          unfold symT3 at hT
                          by_cases c1 : mid < e
                          · by_cases c2 : e < b
                            · have d1 : decide ((mid : Int) < (e : Int)) = true := decide_eq_true (by omega)
                              have d2 : decide ((e : Int) < (b : Int)) = true := decide_eq_true (by omega)
                              rw [if_pos ⟨c1, c2⟩] at hT
                              have cS3 := ih l2 mid e b hw c1 c2 (by omega) (by omega) (by omega) hl2s
                              obtain ⟨l3, hl3⟩ : ∃ l3, l3 = symL ltA f l2 mid e b := ⟨_, rfl⟩
                              rw [← hl3] at cS3 hT
                              have hl3n : l3.length = l.length := by rw [hl3, symL_len]; exact hl2n
                              have hl3s : ∀ x ∈ l3, AtSz x := fun x hx => hl2s x (symL_mem _ _ _ _ _ (hl3 ▸ hx))
                              rw [hl2n] at cS3
                              clear hl3
                              repeat (first | refine tr_seq_k fun _ _ => ?_ | (refine tr_region ?_; simp only [go_sem, List.getElem?_toArray, reduceCtorEq, Nat.reduceEqDiff, Nat.reduceLT, ↓reduceIte, d1, d2]) | (refine call_givesW (cS2) ?_; (try dsimp only); (try simp only [go_sem, reduceCtorEq, Nat.reduceEqDiff, Nat.reduceLT, Nat.reduceLeDiff, Nat.reduceAdd, Nat.reduceMul, Nat.reduceSub, Nat.reduceBEq, ↓reduceIte, d1, d2])) | refine k_of (by assumption) ?_)
                              refine tr_cond rfl (fun ht => ?_) (fun hf => ?_)
                              · clear d1 d2
                                repeat (first | (refine tr_region ?_; simp only [go_sem, reduceCtorEq, Nat.reduceEqDiff, Nat.reduceLT, ↓reduceIte]) | (refine call_givesW (cS3) ?_; (try dsimp only); (try simp only [go_sem, reduceCtorEq, Nat.reduceEqDiff, Nat.reduceLT, Nat.reduceLeDiff, Nat.reduceAdd, Nat.reduceMul, Nat.reduceSub, Nat.reduceBEq, ↓reduceIte])))
                                exact (hQ _ _ [] rfl rfl (by rw [hT])).1
                              · cases hf
                            · have d1 : decide ((mid : Int) < (e : Int)) = true := decide_eq_true (by omega)
                              have d2 : decide ((e : Int) < (b : Int)) = false := decide_eq_false (by omega)
                              rw [if_neg (fun h => c2 h.2)] at hT
                              repeat (first | refine tr_seq_k fun _ _ => ?_ | (refine tr_region ?_; simp only [go_sem, List.getElem?_toArray, reduceCtorEq, Nat.reduceEqDiff, Nat.reduceLT, ↓reduceIte, d1, d2]) | (refine call_givesW (cS2) ?_; (try dsimp only); (try simp only [go_sem, reduceCtorEq, Nat.reduceEqDiff, Nat.reduceLT, Nat.reduceLeDiff, Nat.reduceAdd, Nat.reduceMul, Nat.reduceSub, Nat.reduceBEq, ↓reduceIte, d1, d2])) | refine k_of (by assumption) ?_)
                              refine tr_cond rfl (fun ht => ?_) (fun hf => ?_)
                              · cases ht
                              · clear d1 d2
                                repeat ((refine tr_skip ?_; try simp only [ex_seq, ex_block]))
                                exact (hQ _ _ [] rfl rfl (by rw [hT])).1
                          · have d1 : decide ((mid : Int) < (e : Int)) = false := decide_eq_false (by omega)
                            rw [if_neg (fun h => c1 h.1)] at hT
                            repeat (first | refine tr_seq_k fun _ _ => ?_ | (refine tr_region ?_; simp only [go_sem, List.getElem?_toArray, reduceCtorEq, Nat.reduceEqDiff, Nat.reduceLT, ↓reduceIte, d1]) | (refine call_givesW (cS2) ?_; (try dsimp only); (try simp only [go_sem, reduceCtorEq, Nat.reduceEqDiff, Nat.reduceLT, Nat.reduceLeDiff, Nat.reduceAdd, Nat.reduceMul, Nat.reduceSub, Nat.reduceBEq, ↓reduceIte, d1])) | refine k_of (by assumption) ?_)
                            refine tr_cond rfl (fun ht => ?_) (fun hf => ?_)
                            · cases ht
                            · clear d1
                              repeat ((refine tr_skip ?_; try simp only [ex_seq, ex_block]))
                              exact (hQ _ _ [] rfl rfl (by rw [hT])).1
                        · cases hf
                      · have d1 : decide ((a : Int) < (R : Int)) = true := decide_eq_true (by omega)
                        have d2 : decide ((R : Int) < (mid : Int)) = false := decide_eq_false (by omega)
                        rw [if_neg (fun h => c2 h.2)] at hT
                        repeat (first | refine tr_seq_k fun _ _ => ?_ | (refine tr_region ?_; simp only [go_sem, List.getElem?_toArray, reduceCtorEq, Nat.reduceEqDiff, Nat.reduceLT, ↓reduceIte, d1, d2]) | refine k_of (by assumption) ?_ | (refine tr_skip ?_; try simp only [ex_seq]))
                        refine tr_cond rfl (fun ht => ?_) (fun hf => ?_)
                        · cases ht
                        · clear d1 d2
                          unfold symT3 at hT
                          by_cases c1 : mid < e
                          · by_cases c2 : e < b
                            · have d1 : decide ((mid : Int) < (e : Int)) = true := decide_eq_true (by omega)
                              have d2 : decide ((e : Int) < (b : Int)) = true := decide_eq_true (by omega)
                              rw [if_pos ⟨c1, c2⟩] at hT
                              have cS3 := ih l mid e b hw c1 c2 (by omega) (by omega) (by omega) hsz
                              obtain ⟨l3, hl3⟩ : ∃ l3, l3 = symL ltA f l mid e b := ⟨_, rfl⟩
                              rw [← hl3] at cS3 hT
                              have hl3n : l3.length = l.length := by rw [hl3, symL_len]
                              have hl3s : ∀ x ∈ l3, AtSz x := fun x hx => hsz x (symL_mem _ _ _ _ _ (hl3 ▸ hx))
                              clear hl3
                              repeat (first | refine tr_seq_k fun _ _ => ?_ | (refine tr_region ?_; simp only [go_sem, List.getElem?_toArray, reduceCtorEq, Nat.reduceEqDiff, Nat.reduceLT, ↓reduceIte, d1, d2]) | refine k_of (by assumption) ?_ | (refine tr_skip ?_; try simp only [ex_seq]))
                              refine tr_cond rfl (fun ht => ?_) (fun hf => ?_)
                              · clear d1 d2
                                repeat (first | (refine tr_region ?_; simp only [go_sem, reduceCtorEq, Nat.reduceEqDiff, Nat.reduceLT, ↓reduceIte]) | (refine call_givesW (cS3) ?_; (try dsimp only); (try simp only [go_sem, reduceCtorEq, Nat.reduceEqDiff, Nat.reduceLT, Nat.reduceLeDiff, Nat.reduceAdd, Nat.reduceMul, Nat.reduceSub, Nat.reduceBEq, ↓reduceIte])))
                                exact (hQ _ _ [] rfl rfl (by rw [hT])).1
                              · cases hf
                            · have d1 : decide ((mid : Int) < (e : Int)) = true := decide_eq_true (by omega)
                              have d2 : decide ((e : Int) < (b : Int)) = false := decide_eq_false (by omega)
                              rw [if_neg (fun h => c2 h.2)] at hT
                              repeat (first | refine tr_seq_k fun _ _ => ?_ | (refine tr_region ?_; simp only [go_sem, List.getElem?_toArray, reduceCtorEq, Nat.reduceEqDiff, Nat.reduceLT, ↓reduceIte, d1, d2]) | refine k_of (by assumption) ?_ | (refine tr_skip ?_; try simp only [ex_seq]))
                              refine tr_cond rfl (fun ht => ?_) (fun hf => ?_)
                              · cases ht
                              · clear d1 d2
                                repeat ((refine tr_skip ?_; try simp only [ex_seq, ex_block]))
                                exact (hQ _ _ [] rfl rfl (by rw [hT])).1
                          · have d1 : decide ((mid : Int) < (e : Int)) = false := decide_eq_false (by omega)
                            rw [if_neg (fun h => c1 h.1)] at hT
                            repeat (first | refine tr_seq_k fun _ _ => ?_ | (refine tr_region ?_; simp only [go_sem, List.getElem?_toArray, reduceCtorEq, Nat.reduceEqDiff, Nat.reduceLT, ↓reduceIte, d1]) | refine k_of (by assumption) ?_ | (refine tr_skip ?_; try simp only [ex_seq]))
                            refine tr_cond rfl (fun ht => ?_) (fun hf => ?_)
                            · cases ht
                            · clear d1
                              repeat ((refine tr_skip ?_; try simp only [ex_seq, ex_block]))
                              exact (hQ _ _ [] rfl rfl (by rw [hT])).1
                    · have d1 : decide ((a : Int) < (R : Int)) = false := decide_eq_false (by omega)
                      rw [if_neg (fun h => c1 h.1)] at hT
                      repeat (first | refine tr_seq_k fun _ _ => ?_ | (refine tr_region ?_; simp only [go_sem, List.getElem?_toArray, reduceCtorEq, Nat.reduceEqDiff, Nat.reduceLT, ↓reduceIte, d1]) | refine k_of (by assumption) ?_ | (refine tr_skip ?_; try simp only [ex_seq]))
                      refine tr_cond rfl (fun ht => ?_) (fun hf => ?_)
                      · cases ht
                      · clear d1
                        unfold symT3 at hT
                        by_cases c1 : mid < e
                        · by_cases c2 : e < b
                          · have d1 : decide ((mid : Int) < (e : Int)) = true := decide_eq_true (by omega)
                            have d2 : decide ((e : Int) < (b : Int)) = true := decide_eq_true (by omega)
                            rw [if_pos ⟨c1, c2⟩] at hT
                            have cS3 := ih l mid e b hw c1 c2 (by omega) (by omega) (by omega) hsz
                            obtain ⟨l3, hl3⟩ : ∃ l3, l3 = symL ltA f l mid e b := ⟨_, rfl⟩
                            rw [← hl3] at cS3 hT
                            have hl3n : l3.length = l.length := by rw [hl3, symL_len]
                            have hl3s : ∀ x ∈ l3, AtSz x := fun x hx => hsz x (symL_mem _ _ _ _ _ (hl3 ▸ hx))
                            clear hl3
                            repeat (first | refine tr_seq_k fun _ _ => ?_ | (refine tr_region ?_; simp only [go_sem, List.getElem?_toArray, reduceCtorEq, Nat.reduceEqDiff, Nat.reduceLT, ↓reduceIte, d1, d2]) | refine k_of (by assumption) ?_ | (refine tr_skip ?_; try simp only [ex_seq]))
                            refine tr_cond rfl (fun ht => ?_) (fun hf => ?_)
                            · clear d1 d2
                              repeat (first | (refine tr_region ?_; simp only [go_sem, reduceCtorEq, Nat.reduceEqDiff, Nat.reduceLT, ↓reduceIte]) | (refine call_givesW (cS3) ?_; (try dsimp only); (try simp only [go_sem, reduceCtorEq, Nat.reduceEqDiff, Nat.reduceLT, Nat.reduceLeDiff, Nat.reduceAdd, Nat.reduceMul, Nat.reduceSub, Nat.reduceBEq, ↓reduceIte])))
                              exact (hQ _ _ [] rfl rfl (by rw [hT])).1
                            · cases hf
                          · have d1 : decide ((mid : Int) < (e : Int)) = true := decide_eq_true (by omega)
                            have d2 : decide ((e : Int) < (b : Int)) = false := decide_eq_false (by omega)
                            rw [if_neg (fun h => c2 h.2)] at hT
                            repeat (first | refine tr_seq_k fun _ _ => ?_ | (refine tr_region ?_; simp only [go_sem, List.getElem?_toArray, reduceCtorEq, Nat.reduceEqDiff, Nat.reduceLT, ↓reduceIte, d1, d2]) | refine k_of (by assumption) ?_ | (refine tr_skip ?_; try simp only [ex_seq]))
                            refine tr_cond rfl (fun ht => ?_) (fun hf => ?_)
                            · cases ht
                            · clear d1 d2
                              repeat ((refine tr_skip ?_; try simp only [ex_seq, ex_block]))
                              exact (hQ _ _ [] rfl rfl (by rw [hT])).1
                        · have d1 : decide ((mid : Int) < (e : Int)) = false := decide_eq_false (by omega)
                          rw [if_neg (fun h => c1 h.1)] at hT
                          repeat (first | refine tr_seq_k fun _ _ => ?_ | (refine tr_region ?_; simp only [go_sem, List.getElem?_toArray, reduceCtorEq, Nat.reduceEqDiff, Nat.reduceLT, ↓reduceIte, d1]) | refine k_of (by assumption) ?_ | (refine tr_skip ?_; try simp only [ex_seq]))
                          refine tr_cond rfl (fun ht => ?_) (fun hf => ?_)
                          · cases ht
                          · clear d1
                            repeat ((refine tr_skip ?_; try simp only [ex_seq, ex_block]))
                            exact (hQ _ _ [] rfl rfl (by rw [hT])).1
              · have d1 : decide ((R : Int) < (m : Int)) = false := decide_eq_false (by omega)
                rw [if_neg (fun h => c1 h.1)] at hT
                repeat (first | refine tr_seq_k fun _ _ => ?_ | (refine tr_region ?_; simp only [go_sem, List.getElem?_toArray, reduceCtorEq, Nat.reduceEqDiff, Nat.reduceLT, ↓reduceIte, w7, d1]) | refine k_of (by assumption) ?_ | (refine tr_exit ?_; try simp only [ex_seq_exit, ex_block_exit, ex_seq, ↓reduceIte]))
                refine tr_cond rfl (fun ht => ?_) (fun hf => ?_)
                · cases ht
                · clear d1
                  unfold symT2 at hT
                  by_cases c1 : a < R
                  · by_cases c2 : R < mid
                    · have d1 : decide ((a : Int) < (R : Int)) = true := decide_eq_true (by omega)
                      have d2 : decide ((R : Int) < (mid : Int)) = true := decide_eq_true (by omega)
                      rw [if_pos ⟨c1, c2⟩] at hT
                      have cS2 := ih l a R mid hw c1 c2 (by omega) (by omega) (by omega) hsz
                      obtain ⟨l2, hl2⟩ : ∃ l2, l2 = symL ltA f l a R mid := ⟨_, rfl⟩
                      rw [← hl2] at cS2 hT
                      have hl2n : l2.length = l.length := by rw [hl2, symL_len]
                      have hl2s : ∀ x ∈ l2, AtSz x := fun x hx => hsz x (symL_mem _ _ _ _ _ (hl2 ▸ hx))
                      clear hl2
                      repeat (first | refine tr_seq_k fun _ _ => ?_ | (refine tr_region ?_; simp only [go_sem, List.getElem?_toArray, reduceCtorEq, Nat.reduceEqDiff, Nat.reduceLT, ↓reduceIte, d1, d2]) | refine k_of (by assumption) ?_ | (refine tr_skip ?_; try simp only [ex_seq]))
                      refine tr_cond rfl (fun ht => ?_) (fun hf => ?_)
                      · clear d1 d2
                        unfold symT3 at hT
                        by_cases c1 : mid < e
                        · by_cases c2 : e < b
                          · have d1 : decide ((mid : Int) < (e : Int)) = true := decide_eq_true (by omega)
                            have d2 : decide ((e : Int) < (b : Int)) = true := decide_eq_true (by omega)
                            rw [if_pos ⟨c1, c2⟩] at hT
                            have cS3 := ih l2 mid e b hw c1 c2 (by omega) (by omega) (by omega) hl2s
                            obtain ⟨l3, hl3⟩ : ∃ l3, l3 = symL ltA f l2 mid e b := ⟨_, rfl⟩
                            rw [← hl3] at cS3 hT
                            have hl3n : l3.length = l.length := by rw [hl3, symL_len]; exact hl2n
                            have hl3s : ∀ x ∈ l3, AtSz x := fun x hx => hl2s x (symL_mem _ _ _ _ _ (hl3 ▸ hx))
                            rw [hl2n] at cS3
                            clear hl3
                            repeat (first | refine tr_seq_k fun _ _ => ?_ | (refine tr_region ?_; simp only [go_sem, List.getElem?_toArray, reduceCtorEq, Nat.reduceEqDiff, Nat.reduceLT, ↓reduceIte, d1, d2]) | (refine call_givesW (cS2) ?_; (try dsimp only); (try simp only [go_sem, reduceCtorEq, Nat.reduceEqDiff, Nat.reduceLT, Nat.reduceLeDiff, Nat.reduceAdd, Nat.reduceMul, Nat.reduceSub, Nat.reduceBEq, ↓reduceIte, d1, d2])) | refine k_of (by assumption) ?_)
                            refine tr_cond rfl (fun ht => ?_) (fun hf => ?_)
                            · clear d1 d2
                              repeat (first | (refine tr_region ?_; simp only [go_sem, reduceCtorEq, Nat.reduceEqDiff, Nat.reduceLT, ↓reduceIte]) | (refine call_givesW (cS3) ?_; (try dsimp only); (try simp only [go_sem, reduceCtorEq, Nat.reduceEqDiff, Nat.reduceLT, Nat.reduceLeDiff, Nat.reduceAdd, Nat.reduceMul, Nat.reduceSub, Nat.reduceBEq, ↓reduceIte])))
                              exact (hQ _ _ [] rfl rfl (by rw [hT])).1
                            · cases hf
                          · have d1 : decide ((mid : Int) < (e : Int)) = true := decide_eq_true (by omega)
                            have d2 : decide ((e : Int) < (b : Int)) = false := decide_eq_false (by omega)
                            rw [if_neg (fun h => c2 h.2)] at hT
                            repeat (first | refine tr_seq_k fun _ _ => ?_ | (refine tr_region ?_; simp only [go_sem, List.getElem?_toArray, reduceCtorEq, Nat.reduceEqDiff, Nat.reduceLT, ↓reduceIte, d1, d2]) | (refine call_givesW (cS2) ?_; (try dsimp only); (try simp only [go_sem, reduceCtorEq, Nat.reduceEqDiff, Nat.reduceLT, Nat.reduceLeDiff, Nat.reduceAdd, Nat.reduceMul, Nat.reduceSub, Nat.reduceBEq, ↓reduceIte, d1, d2])) | refine k_of (by assumption) ?_)
                            refine tr_cond rfl (fun ht => ?_) (fun hf => ?_)
                            · cases ht
                            · clear d1 d2
                              repeat ((refine tr_skip ?_; try simp only [ex_seq, ex_block]))
                              exact (hQ _ _ [] rfl rfl (by rw [hT])).1
                        · have d1 : decide ((mid : Int) < (e : Int)) = false := decide_eq_false (by omega)
                          rw [if_neg (fun h => c1 h.1)] at hT
                          repeat (first | refine tr_seq_k fun _ _ => ?_ | (refine tr_region ?_; simp only [go_sem, List.getElem?_toArray, reduceCtorEq, Nat.reduceEqDiff, Nat.reduceLT, ↓reduceIte, d1]) | (refine call_givesW (cS2) ?_; (try dsimp only); (try simp only [go_sem, reduceCtorEq, Nat.reduceEqDiff, Nat.reduceLT, Nat.reduceLeDiff, Nat.reduceAdd, Nat.reduceMul, Nat.reduceSub, Nat.reduceBEq, ↓reduceIte, d1])) | refine k_of (by assumption) ?_)
                          refine tr_cond rfl (fun ht => ?_) (fun hf => ?_)
                          · cases ht
                          · clear d1
                            repeat ((refine tr_skip ?_; try simp only [ex_seq, ex_block]))
                            exact (hQ _ _ [] rfl rfl (by rw [hT])).1
                      · cases hf
                    · have d1 : decide ((a : Int) < (R : Int)) = true := decide_eq_true (by omega)
                      have d2 : decide ((R : Int) < (mid : Int)) = false := decide_eq_false (by omega)
                      rw [if_neg (fun h => c2 h.2)] at hT
                      repeat (first | refine tr_seq_k fun _ _ => ?_ | (refine tr_region ?_; simp only [go_sem, List.getElem?_toArray, reduceCtorEq, Nat.reduceEqDiff, Nat.reduceLT, ↓reduceIte, d1, d2]) | refine k_of (by assumption) ?_ | (refine tr_skip ?_; try simp only [ex_seq]))
                      refine tr_cond rfl (fun ht => ?_) (fun hf => ?_)
                      · cases ht
                      · clear d1 d2
                        unfold symT3 at hT
                        by_cases c1 : mid < e
                        · by_cases c2 : e < b
                          · have d1 : decide ((mid : Int) < (e : Int)) = true := decide_eq_true (by omega)
                            have d2 : decide ((e : Int) < (b : Int)) = true := decide_eq_true (by omega)
                            rw [if_pos ⟨c1, c2⟩] at hT
                            have cS3 := ih l mid e b hw c1 c2 (by omega) (by omega) (by omega) hsz
                            obtain ⟨l3, hl3⟩ : ∃ l3, l3 = symL ltA f l mid e b := ⟨_, rfl⟩
                            rw [← hl3] at cS3 hT
                            have hl3n : l3.length = l.length := by rw [hl3, symL_len]
                            have hl3s : ∀ x ∈ l3, AtSz x := fun x hx => hsz x (symL_mem _ _ _ _ _ (hl3 ▸ hx))
                            clear hl3
                            repeat (first | refine tr_seq_k fun _ _ => ?_ | (refine tr_region ?_; simp only [go_sem, List.getElem?_toArray, reduceCtorEq, Nat.reduceEqDiff, Nat.reduceLT, ↓reduceIte, d1, d2]) | refine k_of (by assumption) ?_ | (refine tr_skip ?_; try simp only [ex_seq]))
                            refine tr_cond rfl (fun ht => ?_) (fun hf => ?_)
                            · clear d1 d2
                              repeat (first | (refine tr_region ?_; simp only [go_sem, reduceCtorEq, Nat.reduceEqDiff, Nat.reduceLT, ↓reduceIte]) | (refine call_givesW (cS3) ?_; (try dsimp only); (try simp only [go_sem, reduceCtorEq, Nat.reduceEqDiff, Nat.reduceLT, Nat.reduceLeDiff, Nat.reduceAdd, Nat.reduceMul, Nat.reduceSub, Nat.reduceBEq, ↓reduceIte])))
                              exact (hQ _ _ [] rfl rfl (by rw [hT])).1
                            · cases hf
                          · have d1 : decide ((mid : Int) < (e : Int)) = true := decide_eq_true (by omega)
                            have d2 : decide ((e : Int) < (b : Int)) = false := decide_eq_false (by omega)
                            rw [if_neg (fun h => c2 h.2)] at hT
                            repeat (first | refine tr_seq_k fun _ _ => ?_ | (refine tr_region ?_; simp only [go_sem, List.getElem?_toArray, reduceCtorEq, Nat.reduceEqDiff, Nat.reduceLT, ↓reduceIte, d1, d2]) | refine k_of (by assumption) ?_ | (refine tr_skip ?_; try simp only [ex_seq]))
                            refine tr_cond rfl (fun ht => ?_) (fun hf => ?_)
                            · cases ht
                            · clear d1 d2
                              repeat ((refine tr_skip ?_; try simp only [ex_seq, ex_block]))
                              exact (hQ _ _ [] rfl rfl (by rw [hT])).1
                        · have d1 : decide ((mid : Int) < (e : Int)) = false := decide_eq_false (by omega)
                          rw [if_neg (fun h => c1 h.1)] at hT
                          repeat (first | refine tr_seq_k fun _ _ => ?_ | (refine tr_region ?_; simp only [go_sem, List.getElem?_toArray, reduceCtorEq, Nat.reduceEqDiff, Nat.reduceLT, ↓reduceIte, d1]) | refine k_of (by assumption) ?_ | (refine tr_skip ?_; try simp only [ex_seq]))
                          refine tr_cond rfl (fun ht => ?_) (fun hf => ?_)
                          · cases ht
                          · clear d1
                            repeat ((refine tr_skip ?_; try simp only [ex_seq, ex_block]))
                            exact (hQ _ _ [] rfl rfl (by rw [hT])).1
                  · have d1 : decide ((a : Int) < (R : Int)) = false := decide_eq_false (by omega)
                    rw [if_neg (fun h => c1 h.1)] at hT
                    repeat (first | refine tr_seq_k fun _ _ => ?_ | (refine tr_region ?_; simp only [go_sem, List.getElem?_toArray, reduceCtorEq, Nat.reduceEqDiff, Nat.reduceLT, ↓reduceIte, d1]) | refine k_of (by assumption) ?_ | (refine tr_skip ?_; try simp only [ex_seq]))
                    refine tr_cond rfl (fun ht => ?_) (fun hf => ?_)
                    · cases ht
                    · clear d1
                      unfold symT3 at hT
                      by_cases c1 : mid < e
                      · by_cases c2 : e < b
                        · have d1 : decide ((mid : Int) < (e : Int)) = true := decide_eq_true (by omega)
                          have d2 : decide ((e : Int) < (b : Int)) = true := decide_eq_true (by omega)
                          rw [if_pos ⟨c1, c2⟩] at hT
                          have cS3 := ih l mid e b hw c1 c2 (by omega) (by omega) (by omega) hsz
                          obtain ⟨l3, hl3⟩ : ∃ l3, l3 = symL ltA f l mid e b := ⟨_, rfl⟩
                          rw [← hl3] at cS3 hT
                          have hl3n : l3.length = l.length := by rw [hl3, symL_len]
                          have hl3s : ∀ x ∈ l3, AtSz x := fun x hx => hsz x (symL_mem _ _ _ _ _ (hl3 ▸ hx))
                          clear hl3
                          repeat (first | refine tr_seq_k fun _ _ => ?_ | (refine tr_region ?_; simp only [go_sem, List.getElem?_toArray, reduceCtorEq, Nat.reduceEqDiff, Nat.reduceLT, ↓reduceIte, d1, d2]) | refine k_of (by assumption) ?_ | (refine tr_skip ?_; try simp only [ex_seq]))
                          refine tr_cond rfl (fun ht => ?_) (fun hf => ?_)
                          · clear d1 d2
                            repeat (first | (refine tr_region ?_; simp only [go_sem, reduceCtorEq, Nat.reduceEqDiff, Nat.reduceLT, ↓reduceIte]) | (refine call_givesW (cS3) ?_; (try dsimp only); (try simp only [go_sem, reduceCtorEq, Nat.reduceEqDiff, Nat.reduceLT, Nat.reduceLeDiff, Nat.reduceAdd, Nat.reduceMul, Nat.reduceSub, Nat.reduceBEq, ↓reduceIte])))
                            exact (hQ _ _ [] rfl rfl (by rw [hT])).1
                          · cases hf
                        · have d1 : decide ((mid : Int) < (e : Int)) = true := decide_eq_true (by omega)
                          have d2 : decide ((e : Int) < (b : Int)) = false := decide_eq_false (by omega)
                          rw [if_neg (fun h => c2 h.2)] at hT
                          repeat (first | refine tr_seq_k fun _ _ => ?_ | (refine tr_region ?_; simp only [go_sem, List.getElem?_toArray, reduceCtorEq, Nat.reduceEqDiff, Nat.reduceLT, ↓reduceIte, d1, d2]) | refine k_of (by assumption) ?_ | (refine tr_skip ?_; try simp only [ex_seq]))
                          refine tr_cond rfl (fun ht => ?_) (fun hf => ?_)
                          · cases ht
                          · clear d1 d2
                            repeat ((refine tr_skip ?_; try simp only [ex_seq, ex_block]))
                            exact (hQ _ _ [] rfl rfl (by rw [hT])).1
                      · have d1 : decide ((mid : Int) < (e : Int)) = false := decide_eq_false (by omega)
                        rw [if_neg (fun h => c1 h.1)] at hT
                        repeat (first | refine tr_seq_k fun _ _ => ?_ | (refine tr_region ?_; simp only [go_sem, List.getElem?_toArray, reduceCtorEq, Nat.reduceEqDiff, Nat.reduceLT, ↓reduceIte, d1]) | refine k_of (by assumption) ?_ | (refine tr_skip ?_; try simp only [ex_seq]))
                        refine tr_cond rfl (fun ht => ?_) (fun hf => ?_)
                        · cases ht
                        · clear d1
                          repeat ((refine tr_skip ?_; try simp only [ex_seq, ex_block]))
                          exact (hQ _ _ [] rfl rfl (by rw [hT])).1
        · cases hf
  · rw [if_neg hmm, if_neg hmm] at hT0
    obtain ⟨R, hR⟩ : ∃ R, R = bs (fun c => !ltAt ltA l (nn - 1 - c) c) (m - a + 1) a m := ⟨_, rfl⟩
    have hTT : ∀ S, S = R → T = symT2 ltA f (if S < m ∧ m < nn - S then rotL m (nn - S - S) l (m - S) (nn - S - m) else l) a b mid S (nn - S) := fun S hS => by rw [hS, hR]; exact hT0
    clear hT0
    have q0 : decide ((m : Int) > (mid : Int)) = false := decide_eq_false (by omega)
    refine givesW_of' Tryz.func93 rfl (by kernel_rfl) Tryz.ntmps93 rfl rfl fun Q hQ => ?_
    repeat (first | refine tr_seq_k fun _ _ => ?_ | (refine tr_region ?_; simp only [go_sem, reduceCtorEq, Nat.reduceEqDiff, Nat.reduceLT, Nat.reduceAdd, ↓reduceIte, w1, e0']) | refine k_of (by assumption) ?_)
    refine tr_cond rfl (fun ht => ?_) (fun hf => ?_)
    · cases ht
    · repeat (first | refine tr_seq_k fun _ _ => ?_ | (refine tr_region ?_; simp only [go_sem, reduceCtorEq, Nat.reduceEqDiff, Nat.reduceLT, ↓reduceIte, w2, e1']) | refine k_of (by assumption) ?_ | (refine tr_skip ?_; try simp only [ex_seq]))
      refine tr_cond rfl (fun ht => ?_) (fun hf => ?_)
      · cases ht
      · repeat (first | refine tr_seq_k fun _ _ => ?_ | (refine tr_region ?_; simp only [go_sem, reduceCtorEq, Nat.reduceEqDiff, Nat.reduceLT, ↓reduceIte, w3, cu, sh, ci, w4, q0]) | refine k_of (by assumption) ?_ | (refine tr_skip ?_; try simp only [ex_seq]))
        refine tr_cond rfl (fun ht => ?_) (fun hf => ?_)
        · cases ht
        · repeat (first | refine tr_seq_k fun _ _ => ?_ | (refine tr_region ?_; simp only [go_sem, reduceCtorEq, Nat.reduceEqDiff, Nat.reduceLT, ↓reduceIte, w6]) | refine k_of (by assumption) ?_ | refine tr_block ?_)
          refine tr_loop_k (σ := Nat × Nat × Nat) (fun q => [(0, .lsl 0 0 l.length 11), (1, iA a), (2, iA m), (3, iA b), (4, cmpF), (18, iA mid), (19, iA nn), (22, iA ((nn - 1 : Nat) : Int)), (20, iA q.2.1), (21, iA q.2.2)]) (fun q => ⟨[⟨false, blC atC l⟩], hw⟩)
            (fun q => R = bs (fun c => !ltAt ltA l (nn - 1 - c) c) (q.1 + 1) q.2.1 q.2.2 ∧ a ≤ q.2.1 ∧ q.2.1 ≤ q.2.2 ∧ q.2.2 ≤ m ∧ q.2.2 - q.2.1 ≤ q.1) (fun q => q.2.2 - q.2.1) (m - a, a, m) ⟨hR, Nat.le_refl _, by dsimp only; omega, Nat.le_refl _, Nat.le_refl _⟩ ⟨rfl, rfl, rfl, rfl, rfl, rfl, rfl, rfl, rfl, rfl, trivial⟩ rfl ?_
          rintro ⟨g, i, j⟩ ⟨hRR, hmi, hij, hjb, hg⟩ K hK
          dsimp only at hRR hmi hij hjb hg ⊢
          by_cases hlt : i < j
          · have q1 : decide ((i : Int) < (j : Int)) = true := decide_eq_true (by omega)
            obtain ⟨g, rfl⟩ : ∃ z, g = z + 1 := ⟨g - 1, by omega⟩
            have w2 := wrap_addN (show i + j ≤ 1000000000 by omega)
            have w2b : i + j ≤ 1000000000 := by omega
            have w2c : (i + j) / 2 ≤ 1000000000 := by omega
            have hR2 := bs_hit hRR hlt
            have hh1 : i ≤ (i + j) / 2 := by omega
            have hh2 : (i + j) / 2 < j := by omega
            have sh := shO (i + j)
            have cu := cvU _ w2b
            have ci := cvI _ w2c
            generalize (i + j) / 2 = h at *
            have ws := wrap_succ (show h ≤ 1000000000 by omega)
            have wp := wrap_subN (show h ≤ nn - 1 by omega) (by omega)
            have hx : nn - 1 - h < l.length := by omega
            have hy : h < l.length := by omega
            have cC := cmpA_does l[nn - 1 - h] l[h] (hsz _ (List.getElem_mem hx)) (hsz _ (List.getElem_mem hy))
            have hlt2 := cmpA_lt l[nn - 1 - h] l[h]
            have d1 := drLA hx
            have d2 := drLA hy
            rw [ltAt_eq hx hy] at hR2
            cases hz : ltA l[nn - 1 - h] l[h] with
            | true =>
              rw [hz] at hlt2 hR2
              rw [if_neg (by decide)] at hR2
              repeat (first | refine tr_seq_k fun _ _ => ?_ | (refine tr_region ?_; simp only [go_sem, reduceCtorEq, Nat.reduceEqDiff, Nat.reduceLT, ↓reduceIte, q1]) | refine k_of (by assumption) ?_)
              refine tr_cond rfl (fun ht => ?_) (fun hf => ?_)
              · repeat (first | refine tr_seq_k fun _ _ => ?_ | (refine tr_region ?_; simp only [go_sem, reduceCtorEq, Nat.reduceEqDiff, Nat.reduceLT, ↓reduceIte, w2, cu, ci, sh]) | (refine tr_draw (id := 35) follows 10000 [11] [0, 1, 2, 3, 4, 5, 6, 7, 8, 9, 10, 11, 12, 13] (by kernel_rfl) ?_; simp only [go_sem, List.getElem?_toArray, reduceCtorEq, Nat.reduceEqDiff, Nat.reduceLT, ↓reduceIte, wp, ixLA hx, ixLA hy, d1, d2, fitLA hx, fitLA hy]) | (refine call_of (cC) ?_ ?_; (first | rfl | simp only [go_sem, reduceCtorEq, Nat.reduceEqDiff, Nat.reduceLT, Nat.reduceLeDiff, Nat.reduceAdd, Nat.reduceMul, Nat.reduceSub, Nat.reduceBEq, ↓reduceIte, w2, cu, ci, sh, wp, ixLA hx, ixLA hy, d1, d2, fitLA hx, fitLA hy, hlt2, shut_col]); simp only [go_sem, reduceCtorEq, Nat.reduceEqDiff, Nat.reduceLT, ↓reduceIte, Bool.true_or, hlt2]) | refine k_of (by assumption) ?_ | refine tr_block ?_ | (refine tr_skip ?_; try simp only [ex_seq]))
                refine tr_cond rfl (fun ht => ?_) (fun hf => ?_)
                · cases ht
                · repeat ((refine tr_region ?_; simp only [go_sem, reduceCtorEq, Nat.reduceEqDiff, Nat.reduceLT, ↓reduceIte]))
                  exact hK (g, i, h) _ _ ⟨hR2, by dsimp only; omega, by dsimp only; omega, by dsimp only; omega, by dsimp only; omega⟩ ⟨⟨rfl, rfl, rfl, rfl, rfl, rfl, rfl, rfl, rfl, rfl, trivial⟩, Keep.refl _, rfl, by simp only [lowB, lows_blC]; rfl, Nat.le_refl _, Nat.le_refl _⟩ (by dsimp only; omega)
              · cases hf
            | false =>
              rw [hz] at hlt2 hR2
              rw [if_pos (by decide)] at hR2
              repeat (first | refine tr_seq_k fun _ _ => ?_ | (refine tr_region ?_; simp only [go_sem, reduceCtorEq, Nat.reduceEqDiff, Nat.reduceLT, ↓reduceIte, q1]) | refine k_of (by assumption) ?_)
              refine tr_cond rfl (fun ht => ?_) (fun hf => ?_)
              · repeat (first | refine tr_seq_k fun _ _ => ?_ | (refine tr_region ?_; simp only [go_sem, reduceCtorEq, Nat.reduceEqDiff, Nat.reduceLT, ↓reduceIte, w2, cu, ci, sh]) | (refine tr_draw (id := 35) follows 10000 [11] [0, 1, 2, 3, 4, 5, 6, 7, 8, 9, 10, 11, 12, 13] (by kernel_rfl) ?_; simp only [go_sem, List.getElem?_toArray, reduceCtorEq, Nat.reduceEqDiff, Nat.reduceLT, ↓reduceIte, wp, ixLA hx, ixLA hy, d1, d2, fitLA hx, fitLA hy]) | (refine call_of (cC) ?_ ?_; (first | rfl | simp only [go_sem, reduceCtorEq, Nat.reduceEqDiff, Nat.reduceLT, Nat.reduceLeDiff, Nat.reduceAdd, Nat.reduceMul, Nat.reduceSub, Nat.reduceBEq, ↓reduceIte, w2, cu, ci, sh, wp, ixLA hx, ixLA hy, d1, d2, fitLA hx, fitLA hy, hlt2, shut_col]); simp only [go_sem, reduceCtorEq, Nat.reduceEqDiff, Nat.reduceLT, ↓reduceIte, Bool.true_or, hlt2]) | refine k_of (by assumption) ?_ | refine tr_block ?_ | (refine tr_skip ?_; try simp only [ex_seq]))
                refine tr_cond rfl (fun ht => ?_) (fun hf => ?_)
                · repeat ((refine tr_region ?_; simp only [go_sem, reduceCtorEq, Nat.reduceEqDiff, Nat.reduceLT, ↓reduceIte, ws]))
                  exact hK (g, h + 1, j) _ _ ⟨hR2, by dsimp only; omega, by dsimp only; omega, by dsimp only; omega, by dsimp only; omega⟩ ⟨⟨rfl, rfl, rfl, rfl, rfl, rfl, rfl, rfl, rfl, rfl, trivial⟩, Keep.refl _, rfl, by simp only [lowB, lows_blC]; rfl, Nat.le_refl _, Nat.le_refl _⟩ (by dsimp only; omega)
                · cases hf
              · cases hf
          · have q1 : decide ((i : Int) < (j : Int)) = false := decide_eq_false (by omega)
            obtain rfl : R = i := bs_end hRR hlt
            repeat (first | refine tr_seq_k fun _ _ => ?_ | (refine tr_region ?_; simp only [go_sem, reduceCtorEq, Nat.reduceEqDiff, Nat.reduceLT, ↓reduceIte, q1]) | refine k_of (by assumption) ?_)
            refine tr_cond rfl (fun ht => ?_) (fun hf => ?_)
            · cases ht
            · have hRm : a ≤ R := hmi
              have hRr : R ≤ m := by omega
              have w7 := wrap_subN (show R ≤ nn by omega) (by omega)
              have hT := hTT R rfl
              obtain ⟨e, he⟩ : ∃ e, e = nn - R := ⟨_, rfl⟩
              rw [← he] at w7 hT
              by_cases c1 : R < m
              · by_cases c2 : m < e
                · have d1 : decide ((R : Int) < (m : Int)) = true := decide_eq_true (by omega)
                  have d2 : decide ((m : Int) < (e : Int)) = true := decide_eq_true (by omega)
                  rw [if_pos ⟨c1, c2⟩] at hT
                  have cS1 := rot_gives l R m e hw c1 c2 (by omega) (by omega)
                  obtain ⟨l1, hl1⟩ : ∃ l1, l1 = rotL m (e - R) l (m - R) (e - m) := ⟨_, rfl⟩
                  rw [← hl1] at cS1 hT
                  have hl1n : l1.length = l.length := by rw [hl1, rotL_len]
                  have hl1s : ∀ x ∈ l1, AtSz x := fun x hx => hsz x (rotL_mem _ _ _ _ (hl1 ▸ hx))
                  clear hl1
                  repeat (first | refine tr_seq_k fun _ _ => ?_ | (refine tr_region ?_; simp only [go_sem, List.getElem?_toArray, reduceCtorEq, Nat.reduceEqDiff, Nat.reduceLT, ↓reduceIte, w7, d1, d2]) | refine k_of (by assumption) ?_ | (refine tr_exit ?_; try simp only [ex_seq_exit, ex_block_exit, ex_seq, ↓reduceIte]))
                  refine tr_cond rfl (fun ht => ?_) (fun hf => ?_)
                  · clear d1 d2
                    unfold symT2 at hT
                    by_cases c1 : a < R
                    · by_cases c2 : R < mid
                      · have d1 : decide ((a : Int) < (R : Int)) = true := decide_eq_true (by omega)
                        have d2 : decide ((R : Int) < (mid : Int)) = true := decide_eq_true (by omega)
                        rw [if_pos ⟨c1, c2⟩] at hT
                        have cS2 := ih l1 a R mid hw c1 c2 (by omega) (by omega) (by omega) hl1s
                        obtain ⟨l2, hl2⟩ : ∃ l2, l2 = symL ltA f l1 a R mid := ⟨_, rfl⟩
                        rw [← hl2] at cS2 hT
                        have hl2n : l2.length = l.length := by rw [hl2, symL_len]; exact hl1n
                        have hl2s : ∀ x ∈ l2, AtSz x := fun x hx => hl1s x (symL_mem _ _ _ _ _ (hl2 ▸ hx))
                        rw [hl1n] at cS2
                        clear hl2
                        repeat (first | refine tr_seq_k fun _ _ => ?_ | (refine tr_region ?_; simp only [go_sem, List.getElem?_toArray, reduceCtorEq, Nat.reduceEqDiff, Nat.reduceLT, ↓reduceIte, d1, d2]) | (refine call_givesW (cS1) ?_; (try dsimp only); (try simp only [go_sem, reduceCtorEq, Nat.reduceEqDiff, Nat.reduceLT, Nat.reduceLeDiff, Nat.reduceAdd, Nat.reduceMul, Nat.reduceSub, Nat.reduceBEq, ↓reduceIte, d1, d2])) | refine k_of (by assumption) ?_)
                        refine tr_cond rfl (fun ht => ?_) (fun hf => ?_)
                        · clear d1 d2
                          unfold symT3 at hT
                          by_cases c1 : mid < e
                          · by_cases c2 : e < b
                            · have d1 : decide ((mid : Int) < (e : Int)) = true := decide_eq_true (by omega)
                              have d2 : decide ((e : Int) < (b : Int)) = true := decide_eq_true (by omega)
                              rw [if_pos ⟨c1, c2⟩] at hT
                              have cS3 := ih l2 mid e b hw c1 c2 (by omega) (by omega) (by omega) hl2s
                              obtain ⟨l3, hl3⟩ : ∃ l3, l3 = symL ltA f l2 mid e b := ⟨_, rfl⟩
                              rw [← hl3] at cS3 hT
                              have hl3n : l3.length = l.length := by rw [hl3, symL_len]; exact hl2n
                              have hl3s : ∀ x ∈ l3, AtSz x := fun x hx => hl2s x (symL_mem _ _ _ _ _ (hl3 ▸ hx))
                              rw [hl2n] at cS3
                              clear hl3
                              repeat (first | refine tr_seq_k fun _ _ => ?_ | (refine tr_region ?_; simp only [go_sem, List.getElem?_toArray, reduceCtorEq, Nat.reduceEqDiff, Nat.reduceLT, ↓reduceIte, d1, d2]) | (refine call_givesW (cS2) ?_; (try dsimp only); (try simp only [go_sem, reduceCtorEq, Nat.reduceEqDiff, Nat.reduceLT, Nat.reduceLeDiff, Nat.reduceAdd, Nat.reduceMul, Nat.reduceSub, Nat.reduceBEq, ↓reduceIte, d1, d2])) | refine k_of (by assumption) ?_)
                              refine tr_cond rfl (fun ht => ?_) (fun hf => ?_)
                              · clear d1 d2
                                repeat (first | (refine tr_region ?_; simp only [go_sem, reduceCtorEq, Nat.reduceEqDiff, Nat.reduceLT, ↓reduceIte]) | (refine call_givesW (cS3) ?_; (try dsimp only); (try simp only [go_sem, reduceCtorEq, Nat.reduceEqDiff, Nat.reduceLT, Nat.reduceLeDiff, Nat.reduceAdd, Nat.reduceMul, Nat.reduceSub, Nat.reduceBEq, ↓reduceIte])))
                                exact (hQ _ _ [] rfl rfl (by rw [hT])).1
                              · cases hf
                            · have d1 : decide ((mid : Int) < (e : Int)) = true := decide_eq_true (by omega)
                              have d2 : decide ((e : Int) < (b : Int)) = false := decide_eq_false (by omega)
                              rw [if_neg (fun h => c2 h.2)] at hT
                              repeat (first | refine tr_seq_k fun _ _ => ?_ | (refine tr_region ?_; simp only [go_sem, List.getElem?_toArray, reduceCtorEq, Nat.reduceEqDiff, Nat.reduceLT, ↓reduceIte, d1, d2]) | (refine call_givesW (cS2) ?_; (try dsimp only); (try simp only [go_sem, reduceCtorEq, Nat.reduceEqDiff, Nat.reduceLT, Nat.reduceLeDiff, Nat.reduceAdd, Nat.reduceMul, Nat.reduceSub, Nat.reduceBEq, ↓reduceIte, d1, d2])) | refine k_of (by assumption) ?_)
                              refine tr_cond rfl (fun ht => ?_) (fun hf => ?_)
                              · cases ht
                              · clear d1 d2
                                repeat ((refine tr_skip ?_; try simp only [ex_seq, ex_block]))
                                exact (hQ _ _ [] rfl rfl (by rw [hT])).1
                          · have d1 : decide ((mid : Int) < (e : Int)) = false := decide_eq_false (by omega)
                            rw [if_neg (fun h => c1 h.1)] at hT
                            repeat (first | refine tr_seq_k fun _ _ => ?_ | (refine tr_region ?_; simp only [go_sem, List.getElem?_toArray, reduceCtorEq, Nat.reduceEqDiff, Nat.reduceLT, ↓reduceIte, d1]) | (refine call_givesW (cS2) ?_; (try dsimp only); (try simp only [go_sem, reduceCtorEq, Nat.reduceEqDiff, Nat.reduceLT, Nat.reduceLeDiff, Nat.reduceAdd, Nat.reduceMul, Nat.reduceSub, Nat.reduceBEq, ↓reduceIte, d1])) | refine k_of (by assumption) ?_)
                            refine tr_cond rfl (fun ht => ?_) (fun hf => ?_)
                            · cases ht
                            · clear d1
                              repeat ((refine tr_skip ?_; try simp only [ex_seq, ex_block]))
                              exact (hQ _ _ [] rfl rfl (by rw [hT])).1
                        · cases hf
                      · have d1 : decide ((a : Int) < (R : Int)) = true := decide_eq_true (by omega)
                        have d2 : decide ((R : Int) < (mid : Int)) = false := decide_eq_false (by omega)
                        rw [if_neg (fun h => c2 h.2)] at hT
                        repeat (first | refine tr_seq_k fun _ _ => ?_ | (refine tr_region ?_; simp only [go_sem, List.getElem?_toArray, reduceCtorEq, Nat.reduceEqDiff, Nat.reduceLT, ↓reduceIte, d1, d2]) | (refine call_givesW (cS1) ?_; (try dsimp only); (try simp only [go_sem, reduceCtorEq, Nat.reduceEqDiff, Nat.reduceLT, Nat.reduceLeDiff, Nat.reduceAdd, Nat.reduceMul, Nat.reduceSub, Nat.reduceBEq, ↓reduceIte, d1, d2])) | refine k_of (by assumption) ?_)
                        refine tr_cond rfl (fun ht => ?_) (fun hf => ?_)
                        · cases ht
                        · clear d1 d2
                          unfold symT3 at hT
                          by_cases c1 : mid < e
                          · by_cases c2 : e < b
                            · have d1 : decide ((mid : Int) < (e : Int)) = true := decide_eq_true (by omega)
                              have d2 : decide ((e : Int) < (b : Int)) = true := decide_eq_true (by omega)
                              rw [if_pos ⟨c1, c2⟩] at hT
                              have cS3 := ih l1 mid e b hw c1 c2 (by omega) (by omega) (by omega) hl1s
                              obtain ⟨l3, hl3⟩ : ∃ l3, l3 = symL ltA f l1 mid e b := ⟨_, rfl⟩
                              rw [← hl3] at cS3 hT
                              have hl3n : l3.length = l.length := by rw [hl3, symL_len]; exact hl1n
                              have hl3s : ∀ x ∈ l3, AtSz x := fun x hx => hl1s x (symL_mem _ _ _ _ _ (hl3 ▸ hx))
                              rw [hl1n] at cS3
                              clear hl3
                              repeat (first | refine tr_seq_k fun _ _ => ?_ | (refine tr_region ?_; simp only [go_sem, List.getElem?_toArray, reduceCtorEq, Nat.reduceEqDiff, Nat.reduceLT, ↓reduceIte, d1, d2]) | refine k_of (by assumption) ?_ | (refine tr_skip ?_; try simp only [ex_seq]))
                              refine tr_cond rfl (fun ht => ?_) (fun hf => ?_)
                              · clear d1 d2
                                repeat (first | (refine tr_region ?_; simp only [go_sem, reduceCtorEq, Nat.reduceEqDiff, Nat.reduceLT, ↓reduceIte]) | (refine call_givesW (cS3) ?_; (try dsimp only); (try simp only [go_sem, reduceCtorEq, Nat.reduceEqDiff, Nat.reduceLT, Nat.reduceLeDiff, Nat.reduceAdd, Nat.reduceMul, Nat.reduceSub, Nat.reduceBEq, ↓reduceIte])))
                                exact (hQ _ _ [] rfl rfl (by rw [hT])).1
                              · cases hf
                            · have d1 : decide ((mid : Int) < (e : Int)) = true := decide_eq_true (by omega)
                              have d2 : decide ((e : Int) < (b : Int)) = false := decide_eq_false (by omega)
                              rw [if_neg (fun h => c2 h.2)] at hT
                              repeat (first | refine tr_seq_k fun _ _ => ?_ | (refine tr_region ?_; simp only [go_sem, List.getElem?_toArray, reduceCtorEq, Nat.reduceEqDiff, Nat.reduceLT, ↓reduceIte, d1, d2]) | refine k_of (by assumption) ?_ | (refine tr_skip ?_; try simp only [ex_seq]))
                              refine tr_cond rfl (fun ht => ?_) (fun hf => ?_)
                              · cases ht
                              · clear d1 d2
                                repeat ((refine tr_skip ?_; try simp only [ex_seq, ex_block]))
                                exact (hQ _ _ [] rfl rfl (by rw [hT])).1
                          · have d1 : decide ((mid : Int) < (e : Int)) = false := decide_eq_false (by omega)
                            rw [if_neg (fun h => c1 h.1)] at hT
                            repeat (first | refine tr_seq_k fun _ _ => ?_ | (refine tr_region ?_; simp only [go_sem, List.getElem?_toArray, reduceCtorEq, Nat.reduceEqDiff, Nat.reduceLT, ↓reduceIte, d1]) | refine k_of (by assumption) ?_ | (refine tr_skip ?_; try simp only [ex_seq]))
                            refine tr_cond rfl (fun ht => ?_) (fun hf => ?_)
                            · cases ht
                            · clear d1
                              repeat ((refine tr_skip ?_; try simp only [ex_seq, ex_block]))
                              exact (hQ _ _ [] rfl rfl (by rw [hT])).1
                    · have d1 : decide ((a : Int) < (R : Int)) = false := decide_eq_false (by omega)
                      rw [if_neg (fun h => c1 h.1)] at hT
                      repeat (first | refine tr_seq_k fun _ _ => ?_ | (refine tr_region ?_; simp only [go_sem, List.getElem?_toArray, reduceCtorEq, Nat.reduceEqDiff, Nat.reduceLT, ↓reduceIte, d1]) | (refine call_givesW (cS1) ?_; (try dsimp only); (try simp only [go_sem, reduceCtorEq, Nat.reduceEqDiff, Nat.reduceLT, Nat.reduceLeDiff, Nat.reduceAdd, Nat.reduceMul, Nat.reduceSub, Nat.reduceBEq, ↓reduceIte, d1])) | refine k_of (by assumption) ?_)
                      refine tr_cond rfl (fun ht => ?_) (fun hf => ?_)
                      · cases ht
                      · clear d1
                        unfold symT3 at hT
                        by_cases c1 : mid < e
                        · by_cases c2 : e < b
                          · have d1 : decide ((mid : Int) < (e : Int)) = true := decide_eq_true (by omega)
                            have d2 : decide ((e : Int) < (b : Int)) = true := decide_eq_true (by omega)
                            rw [if_pos ⟨c1, c2⟩] at hT
                            have cS3 := ih l1 mid e b hw c1 c2 (by omega) (by omega) (by omega) hl1s
                            obtain ⟨l3, hl3⟩ : ∃ l3, l3 = symL ltA f l1 mid e b := ⟨_, rfl⟩
                            rw [← hl3] at cS3 hT
                            have hl3n : l3.length = l.length := by rw [hl3, symL_len]; exact hl1n
                            have hl3s : ∀ x ∈ l3, AtSz x := fun x hx => hl1s x (symL_mem _ _ _ _ _ (hl3 ▸ hx))
                            rw [hl1n] at cS3
                            clear hl3
                            repeat (first | refine tr_seq_k fun _ _ => ?_ | (refine tr_region ?_; simp only [go_sem, List.getElem?_toArray, reduceCtorEq, Nat.reduceEqDiff, Nat.reduceLT, ↓reduceIte, d1, d2]) | refine k_of (by assumption) ?_ | (refine tr_skip ?_; try simp only [ex_seq]))
                            refine tr_cond rfl (fun ht => ?_) (fun hf => ?_)
                            · clear d1 d2
                              repeat (first | (refine tr_region ?_; simp only [go_sem, reduceCtorEq, Nat.reduceEqDiff, Nat.reduceLT, ↓reduceIte]) | (refine call_givesW (cS3) ?_; (try dsimp only); (try simp only [go_sem, reduceCtorEq, Nat.reduceEqDiff, Nat.reduceLT, Nat.reduceLeDiff, Nat.reduceAdd, Nat.reduceMul, Nat.reduceSub, Nat.reduceBEq, ↓reduceIte])))
                              exact (hQ _ _ [] rfl rfl (by rw [hT])).1
                            · cases hf
                          · have d1 : decide ((mid : Int) < (e : Int)) = true := decide_eq_true (by omega)
                            have d2 : decide ((e : Int) < (b : Int)) = false := decide_eq_false (by omega)
                            rw [if_neg (fun h => c2 h.2)] at hT
                            repeat (first | refine tr_seq_k fun _ _ => ?_ | (refine tr_region ?_; simp only [go_sem, List.getElem?_toArray, reduceCtorEq, Nat.reduceEqDiff, Nat.reduceLT, ↓reduceIte, d1, d2]) | refine k_of (by assumption) ?_ | (refine tr_skip ?_; try simp only [ex_seq]))
                            refine tr_cond rfl (fun ht => ?_) (fun hf => ?_)
                            · cases ht
                            · clear d1 d2
                              repeat ((refine tr_skip ?_; try simp only [ex_seq, ex_block]))
                              exact (hQ _ _ [] rfl rfl (by rw [hT])).1
                        · have d1 : decide ((mid : Int) < (e : Int)) = false := decide_eq_false (by omega)
                          rw [if_neg (fun h => c1 h.1)] at hT
                          repeat (first | refine tr_seq_k fun _ _ => ?_ | (refine tr_region ?_; simp only [go_sem, List.getElem?_toArray, reduceCtorEq, Nat.reduceEqDiff, Nat.reduceLT, ↓reduceIte, d1]) | refine k_of (by assumption) ?_ | (refine tr_skip ?_; try simp only [ex_seq]))
                          refine tr_cond rfl (fun ht => ?_) (fun hf => ?_)
                          · cases ht
                          · clear d1
                            repeat ((refine tr_skip ?_; try simp only [ex_seq, ex_block]))
                            exact (hQ _ _ [] rfl rfl (by rw [hT])).1
                  · cases hf
                · have d1 : decide ((R : Int) < (m : Int)) = true := decide_eq_true (by omega)
                  have d2 : decide ((m : Int) < (e : Int)) = false := decide_eq_false (by omega)
                  rw [if_neg (fun h => c2 h.2)] at hT
                  repeat (first | refine tr_seq_k fun _ _ => ?_ | (refine tr_region ?_; simp only [go_sem, List.getElem?_toArray, reduceCtorEq, Nat.reduceEqDiff, Nat.reduceLT, ↓reduceIte, w7, d1, d2]) | refine k_of (by assumption) ?_ | (refine tr_exit ?_; try simp only [ex_seq_exit, ex_block_exit, ex_seq, ↓reduceIte]))
                  refine tr_cond rfl (fun ht => ?_) (fun hf => ?_)
                  · cases ht
                  · clear d1 d2
                    unfold symT2 at hT
                    by_cases c1 : a < R
                    · by_cases c2 : R < mid
                      · have d1 : decide ((a : Int) < (R : Int)) = true := decide_eq_true (by omega)
                        have d2 : decide ((R : Int) < (mid : Int)) = true := decide_eq_true (by omega)
                        rw [if_pos ⟨c1, c2⟩] at hT
                        have cS2 := ih l a R mid hw c1 c2 (by omega) (by omega) (by omega) hsz
                        obtain ⟨l2, hl2⟩ : ∃ l2, l2 = symL ltA f l a R mid := ⟨_, rfl⟩
                        rw [← hl2] at cS2 hT
                        have hl2n : l2.length = l.length := by rw [hl2, symL_len]
                        have hl2s : ∀ x ∈ l2, AtSz x := fun x hx => hsz x (symL_mem _ _ _ _ _ (hl2 ▸ hx))
                        clear hl2
                        repeat (first | refine tr_seq_k fun _ _ => ?_ | (refine tr_region ?_; simp only [go_sem, List.getElem?_toArray, reduceCtorEq, Nat.reduceEqDiff, Nat.reduceLT, ↓reduceIte, d1, d2]) | refine k_of (by assumption) ?_ | (refine tr_skip ?_; try simp only [ex_seq]))
                        refine tr_cond rfl (fun ht => ?_) (fun hf => ?_)
                        · clear d1 d2
                          unfold symT3 at hT
                          by_cases c1 : mid < e
                          · by_cases c2 : e < b
                            · have d1 : decide ((mid : Int) < (e : Int)) = true := decide_eq_true (by omega)
                              have d2 : decide ((e : Int) < (b : Int)) = true := decide_eq_true (by omega)
                              rw [if_pos ⟨c1, c2⟩] at hT
                              have cS3 := ih l2 mid e b hw c1 c2 (by omega) (by omega) (by omega) hl2s
                              obtain ⟨l3, hl3⟩ : ∃ l3, l3 = symL ltA f l2 mid e b := ⟨_, rfl⟩
                              rw [← hl3] at cS3 hT
                              have hl3n : l3.length = l.length := by rw [hl3, symL_len]; exact hl2n
                              have hl3s : ∀ x ∈ l3, AtSz x := fun x hx => hl2s x (symL_mem _ _ _ _ _ (hl3 ▸ hx))
                              rw [hl2n] at cS3
                              clear hl3
                              repeat (first | refine tr_seq_k fun _ _ => ?_ | (refine tr_region ?_; simp only [go_sem, List.getElem?_toArray, reduceCtorEq, Nat.reduceEqDiff, Nat.reduceLT, ↓reduceIte, d1, d2]) | (refine call_givesW (cS2) ?_; (try dsimp only); (try simp only [go_sem, reduceCtorEq, Nat.reduceEqDiff, Nat.reduceLT, Nat.reduceLeDiff, Nat.reduceAdd, Nat.reduceMul, Nat.reduceSub, Nat.reduceBEq, ↓reduceIte, d1, d2])) | refine k_of (by assumption) ?_)
                              refine tr_cond rfl (fun ht => ?_) (fun hf => ?_)
                              · clear d1 d2
                                repeat (first | (refine tr_region ?_; simp only [go_sem, reduceCtorEq, Nat.reduceEqDiff, Nat.reduceLT, ↓reduceIte]) | (refine call_givesW (cS3) ?_; (try dsimp only); (try simp only [go_sem, reduceCtorEq, Nat.reduceEqDiff, Nat.reduceLT, Nat.reduceLeDiff, Nat.reduceAdd, Nat.reduceMul, Nat.reduceSub, Nat.reduceBEq, ↓reduceIte])))
                                exact (hQ _ _ [] rfl rfl (by rw [hT])).1
                              · cases hf
                            · have d1 : decide ((mid : Int) < (e : Int)) = true := decide_eq_true (by omega)
                              have d2 : decide ((e : Int) < (b : Int)) = false := decide_eq_false (by omega)
                              rw [if_neg (fun h => c2 h.2)] at hT
                              repeat (first | refine tr_seq_k fun _ _ => ?_ | (refine tr_region ?_; simp only [go_sem, List.getElem?_toArray, reduceCtorEq, Nat.reduceEqDiff, Nat.reduceLT, ↓reduceIte, d1, d2]) | (refine call_givesW (cS2) ?_; (try dsimp only); (try simp only [go_sem, reduceCtorEq, Nat.reduceEqDiff, Nat.reduceLT, Nat.reduceLeDiff, Nat.reduceAdd, Nat.reduceMul, Nat.reduceSub, Nat.reduceBEq, ↓reduceIte, d1, d2])) | refine k_of (by assumption) ?_)
                              refine tr_cond rfl (fun ht => ?_) (fun hf => ?_)
                              · cases ht
                              · clear d1 d2
                                repeat ((refine tr_skip ?_; try simp only [ex_seq, ex_block]))
                                exact (hQ _ _ [] rfl rfl (by rw [hT])).1
                          · have d1 : decide ((mid : Int) < (e : Int)) = false := decide_eq_false (by omega)
                            rw [if_neg (fun h => c1 h.1)] at hT
                            repeat (first | refine tr_seq_k fun _ _ => ?_ | (refine tr_region ?_; simp only [go_sem, List.getElem?_toArray, reduceCtorEq, Nat.reduceEqDiff, Nat.reduceLT, ↓reduceIte, d1]) | (refine call_givesW (cS2) ?_; (try dsimp only); (try simp only [go_sem, reduceCtorEq, Nat.reduceEqDiff, Nat.reduceLT, Nat.reduceLeDiff, Nat.reduceAdd, Nat.reduceMul, Nat.reduceSub, Nat.reduceBEq, ↓reduceIte, d1])) | refine k_of (by assumption) ?_)
                            refine tr_cond rfl (fun ht => ?_) (fun hf => ?_)
                            · cases ht
                            · clear d1
                              repeat ((refine tr_skip ?_; try simp only [ex_seq, ex_block]))
                              exact (hQ _ _ [] rfl rfl (by rw [hT])).1
                        · cases hf
                      · have d1 : decide ((a : Int) < (R : Int)) = true := decide_eq_true (by omega)
                        have d2 : decide ((R : Int) < (mid : Int)) = false := decide_eq_false (by omega)
                        rw [if_neg (fun h => c2 h.2)] at hT
                        repeat (first | refine tr_seq_k fun _ _ => ?_ | (refine tr_region ?_; simp only [go_sem, List.getElem?_toArray, reduceCtorEq, Nat.reduceEqDiff, Nat.reduceLT, ↓reduceIte, d1, d2]) | refine k_of (by assumption) ?_ | (refine tr_skip ?_; try simp only [ex_seq]))
                        refine tr_cond rfl (fun ht => ?_) (fun hf => ?_)
                        · cases ht
                        · clear d1 d2
                          unfold symT3 at hT
                          by_cases c1 : mid < e
                          · by_cases c2 : e < b
                            · have d1 : decide ((mid : Int) < (e : Int)) = true := decide_eq_true (by omega)
                              have d2 : decide ((e : Int) < (b : Int)) = true := decide_eq_true (by omega)
                              rw [if_pos ⟨c1, c2⟩] at hT
                              have cS3 := ih l mid e b hw c1 c2 (by omega) (by omega) (by omega) hsz
                              obtain ⟨l3, hl3⟩ : ∃ l3, l3 = symL ltA f l mid e b := ⟨_, rfl⟩
                              rw [← hl3] at cS3 hT
                              have hl3n : l3.length = l.length := by rw [hl3, symL_len]
                              have hl3s : ∀ x ∈ l3, AtSz x := fun x hx => hsz x (symL_mem _ _ _ _ _ (hl3 ▸ hx))
                              clear hl3
                              repeat (first | refine tr_seq_k fun _ _ => ?_ | (refine tr_region ?_; simp only [go_sem, List.getElem?_toArray, reduceCtorEq, Nat.reduceEqDiff, Nat.reduceLT, ↓reduceIte, d1, d2]) | refine k_of (by assumption) ?_ | (refine tr_skip ?_; try simp only [ex_seq]))
                              refine tr_cond rfl (fun ht => ?_) (fun hf => ?_)
                              · clear d1 d2
                                repeat (first | (refine tr_region ?_; simp only [go_sem, reduceCtorEq, Nat.reduceEqDiff, Nat.reduceLT, ↓reduceIte]) | (refine call_givesW (cS3) ?_; (try dsimp only); (try simp only [go_sem, reduceCtorEq, Nat.reduceEqDiff, Nat.reduceLT, Nat.reduceLeDiff, Nat.reduceAdd, Nat.reduceMul, Nat.reduceSub, Nat.reduceBEq, ↓reduceIte])))
                                exact (hQ _ _ [] rfl rfl (by rw [hT])).1
                              · cases hf
                            · have d1 : decide ((mid : Int) < (e : Int)) = true := decide_eq_true (by omega)
                              have d2 : decide ((e : Int) < (b : Int)) = false := decide_eq_false (by omega)
                              rw [if_neg (fun h => c2 h.2)] at hT
                              repeat (first | refine tr_seq_k fun _ _ => ?_ | (refine tr_region ?_; simp only [go_sem, List.getElem?_toArray, reduceCtorEq, Nat.reduceEqDiff, Nat.reduceLT, ↓reduceIte, d1, d2]) | refine k_of (by assumption) ?_ | (refine tr_skip ?_; try simp only [ex_seq]))
                              refine tr_cond rfl (fun ht => ?_) (fun hf => ?_)
                              · cases ht
                              · clear d1 d2
                                repeat ((refine tr_skip ?_; try simp only [ex_seq, ex_block]))
                                exact (hQ _ _ [] rfl rfl (by rw [hT])).1
                          · have d1 : decide ((mid : Int) < (e : Int)) = false := decide_eq_false (by omega)
                            rw [if_neg (fun h => c1 h.1)] at hT
                            repeat (first | refine tr_seq_k fun _ _ => ?_ | (refine tr_region ?_; simp only [go_sem, List.getElem?_toArray, reduceCtorEq, Nat.reduceEqDiff, Nat.reduceLT, ↓reduceIte, d1]) | refine k_of (by assumption) ?_ | (refine tr_skip ?_; try simp only [ex_seq]))
                            refine tr_cond rfl (fun ht => ?_) (fun hf => ?_)
                            · cases ht
                            · clear d1
                              repeat ((refine tr_skip ?_; try simp only [ex_seq, ex_block]))
                              exact (hQ _ _ [] rfl rfl (by rw [hT])).1
                    · have d1 : decide ((a : Int) < (R : Int)) = false := decide_eq_false (by omega)
                      rw [if_neg (fun h => c1 h.1)] at hT
                      repeat (first | refine tr_seq_k fun _ _ => ?_ | (refine tr_region ?_; simp only [go_sem, List.getElem?_toArray, reduceCtorEq, Nat.reduceEqDiff, Nat.reduceLT, ↓reduceIte, d1]) | refine k_of (by assumption) ?_ | (refine tr_skip ?_; try simp only [ex_seq]))
                      refine tr_cond rfl (fun ht => ?_) (fun hf => ?_)
                      · cases ht
                      · clear d1
                        unfold symT3 at hT
                        by_cases c1 : mid < e
                        · by_cases c2 : e < b
                          · have d1 : decide ((mid : Int) < (e : Int)) = true := decide_eq_true (by omega)
                            have d2 : decide ((e : Int) < (b : Int)) = true := decide_eq_true (by omega)
                            rw [if_pos ⟨c1, c2⟩] at hT
                            have cS3 := ih l mid e b hw c1 c2 (by omega) (by omega) (by omega) hsz
                            obtain ⟨l3, hl3⟩ : ∃ l3, l3 = symL ltA f l mid e b := ⟨_, rfl⟩
                            rw [← hl3] at cS3 hT
                            have hl3n : l3.length = l.length := by rw [hl3, symL_len]
                            have hl3s : ∀ x ∈ l3, AtSz x := fun x hx => hsz x (symL_mem _ _ _ _ _ (hl3 ▸ hx))
                            clear hl3
                            repeat (first | refine tr_seq_k fun _ _ => ?_ | (refine tr_region ?_; simp only [go_sem, List.getElem?_toArray, reduceCtorEq, Nat.reduceEqDiff, Nat.reduceLT, ↓reduceIte, d1, d2]) | refine k_of (by assumption) ?_ | (refine tr_skip ?_; try simp only [ex_seq]))
                            refine tr_cond rfl (fun ht => ?_) (fun hf => ?_)
                            · clear d1 d2
                              repeat (first | (refine tr_region ?_; simp only [go_sem, reduceCtorEq, Nat.reduceEqDiff, Nat.reduceLT, ↓reduceIte]) | (refine call_givesW (cS3) ?_; (try dsimp only); (try simp only [go_sem, reduceCtorEq, Nat.reduceEqDiff, Nat.reduceLT, Nat.reduceLeDiff, Nat.reduceAdd, Nat.reduceMul, Nat.reduceSub, Nat.reduceBEq, ↓reduceIte])))
                              exact (hQ _ _ [] rfl rfl (by rw [hT])).1
                            · cases hf
                          · have d1 : decide ((mid : Int) < (e : Int)) = true := decide_eq_true (by omega)
                            have d2 : decide ((e : Int) < (b : Int)) = false := decide_eq_false (by omega)
                            rw [if_neg (fun h => c2 h.2)] at hT
                            repeat (first | refine tr_seq_k fun _ _ => ?_ | (refine tr_region ?_; simp only [go_sem, List.getElem?_toArray, reduceCtorEq, Nat.reduceEqDiff, Nat.reduceLT, ↓reduceIte, d1, d2]) | refine k_of (by assumption) ?_ | (refine tr_skip ?_; try simp only [ex_seq]))
                            refine tr_cond rfl (fun ht => ?_) (fun hf => ?_)
                            · cases ht
                            · clear d1 d2
                              repeat ((refine tr_skip ?_; try simp only [ex_seq, ex_block]))
                              exact (hQ _ _ [] rfl rfl (by rw [hT])).1
                        · have d1 : decide ((mid : Int) < (e : Int)) = false := decide_eq_false (by omega)
                          rw [if_neg (fun h => c1 h.1)] at hT
                          repeat (first | refine tr_seq_k fun _ _ => ?_ | (refine tr_region ?_; simp only [go_sem, List.getElem?_toArray, reduceCtorEq, Nat.reduceEqDiff, Nat.reduceLT, ↓reduceIte, d1]) | refine k_of (by assumption) ?_ | (refine tr_skip ?_; try simp only [ex_seq]))
                          refine tr_cond rfl (fun ht => ?_) (fun hf => ?_)
                          · cases ht
                          · clear d1
                            repeat ((refine tr_skip ?_; try simp only [ex_seq, ex_block]))
                            exact (hQ _ _ [] rfl rfl (by rw [hT])).1
              · have d1 : decide ((R : Int) < (m : Int)) = false := decide_eq_false (by omega)
                rw [if_neg (fun h => c1 h.1)] at hT
                repeat (first | refine tr_seq_k fun _ _ => ?_ | (refine tr_region ?_; simp only [go_sem, List.getElem?_toArray, reduceCtorEq, Nat.reduceEqDiff, Nat.reduceLT, ↓reduceIte, w7, d1]) | refine k_of (by assumption) ?_ | (refine tr_exit ?_; try simp only [ex_seq_exit, ex_block_exit, ex_seq, ↓reduceIte]))
                refine tr_cond rfl (fun ht => ?_) (fun hf => ?_)
                · cases ht
                · clear d1
                  unfold symT2 at hT
                  by_cases c1 : a < R
                  · by_cases c2 : R < mid
                    · have d1 : decide ((a : Int) < (R : Int)) = true := decide_eq_true (by omega)
                      have d2 : decide ((R : Int) < (mid : Int)) = true := decide_eq_true (by omega)
                      rw [if_pos ⟨c1, c2⟩] at hT
                      have cS2 := ih l a R mid hw c1 c2 (by omega) (by omega) (by omega) hsz
                      obtain ⟨l2, hl2⟩ : ∃ l2, l2 = symL ltA f l a R mid := ⟨_, rfl⟩
                      rw [← hl2] at cS2 hT
                      have hl2n : l2.length = l.length := by rw [hl2, symL_len]
                      have hl2s : ∀ x ∈ l2, AtSz x := fun x hx => hsz x (symL_mem _ _ _ _ _ (hl2 ▸ hx))
                      clear hl2
                      repeat (first | refine tr_seq_k fun _ _ => ?_ | (refine tr_region ?_; simp only [go_sem, List.getElem?_toArray, reduceCtorEq, Nat.reduceEqDiff, Nat.reduceLT, ↓reduceIte, d1, d2]) | refine k_of (by assumption) ?_ | (refine tr_skip ?_; try simp only [ex_seq]))
                      refine tr_cond rfl (fun ht => ?_) (fun hf => ?_)
                      · clear d1 d2
                        unfold symT3 at hT
                        by_cases c1 : mid < e
                        · by_cases c2 : e < b
                          · have d1 : decide ((mid : Int) < (e : Int)) = true := decide_eq_true (by omega)
                            have d2 : decide ((e : Int) < (b : Int)) = true := decide_eq_true (by omega)
                            rw [if_pos ⟨c1, c2⟩] at hT
                            have cS3 := ih l2 mid e b hw c1 c2 (by omega) (by omega) (by omega) hl2s
                            obtain ⟨l3, hl3⟩ : ∃ l3, l3 = symL ltA f l2 mid e b := ⟨_, rfl⟩
                            rw [← hl3] at cS3 hT
                            have hl3n : l3.length = l.length := by rw [hl3, symL_len]; exact hl2n
                            have hl3s : ∀ x ∈ l3, AtSz x := fun x hx => hl2s x (symL_mem _ _ _ _ _ (hl3 ▸ hx))
                            rw [hl2n] at cS3
                            clear hl3
                            repeat (first | refine tr_seq_k fun _ _ => ?_ | (refine tr_region ?_; simp only [go_sem, List.getElem?_toArray, reduceCtorEq, Nat.reduceEqDiff, Nat.reduceLT, ↓reduceIte, d1, d2]) | (refine call_givesW (cS2) ?_; (try dsimp only); (try simp only [go_sem, reduceCtorEq, Nat.reduceEqDiff, Nat.reduceLT, Nat.reduceLeDiff, Nat.reduceAdd, Nat.reduceMul, Nat.reduceSub, Nat.reduceBEq, ↓reduceIte, d1, d2])) | refine k_of (by assumption) ?_)
                            refine tr_cond rfl (fun ht => ?_) (fun hf => ?_)
                            · clear d1 d2
                              repeat (first | (refine tr_region ?_; simp only [go_sem, reduceCtorEq, Nat.reduceEqDiff, Nat.reduceLT, ↓reduceIte]) | (refine call_givesW (cS3) ?_; (try dsimp only); (try simp only [go_sem, reduceCtorEq, Nat.reduceEqDiff, Nat.reduceLT, Nat.reduceLeDiff, Nat.reduceAdd, Nat.reduceMul, Nat.reduceSub, Nat.reduceBEq, ↓reduceIte])))
                              exact (hQ _ _ [] rfl rfl (by rw [hT])).1
                            · cases hf
                          · have d1 : decide ((mid : Int) < (e : Int)) = true := decide_eq_true (by omega)
                            have d2 : decide ((e : Int) < (b : Int)) = false := decide_eq_false (by omega)
                            rw [if_neg (fun h => c2 h.2)] at hT
                            repeat (first | refine tr_seq_k fun _ _ => ?_ | (refine tr_region ?_; simp only [go_sem, List.getElem?_toArray, reduceCtorEq, Nat.reduceEqDiff, Nat.reduceLT, ↓reduceIte, d1, d2]) | (refine call_givesW (cS2) ?_; (try dsimp only); (try simp only [go_sem, reduceCtorEq, Nat.reduceEqDiff, Nat.reduceLT, Nat.reduceLeDiff, Nat.reduceAdd, Nat.reduceMul, Nat.reduceSub, Nat.reduceBEq, ↓reduceIte, d1, d2])) | refine k_of (by assumption) ?_)
                            refine tr_cond rfl (fun ht => ?_) (fun hf => ?_)
                            · cases ht
                            · clear d1 d2
                              repeat ((refine tr_skip ?_; try simp only [ex_seq, ex_block]))
                              exact (hQ _ _ [] rfl rfl (by rw [hT])).1
                        · have d1 : decide ((mid : Int) < (e : Int)) = false := decide_eq_false (by omega)
                          rw [if_neg (fun h => c1 h.1)] at hT
                          repeat (first | refine tr_seq_k fun _ _ => ?_ | (refine tr_region ?_; simp only [go_sem, List.getElem?_toArray, reduceCtorEq, Nat.reduceEqDiff, Nat.reduceLT, ↓reduceIte, d1]) | (refine call_givesW (cS2) ?_; (try dsimp only); (try simp only [go_sem, reduceCtorEq, Nat.reduceEqDiff, Nat.reduceLT, Nat.reduceLeDiff, Nat.reduceAdd, Nat.reduceMul, Nat.reduceSub, Nat.reduceBEq, ↓reduceIte, d1])) | refine k_of (by assumption) ?_)
                          refine tr_cond rfl (fun ht => ?_) (fun hf => ?_)
                          · cases ht
                          · clear d1
                            repeat ((refine tr_skip ?_; try simp only [ex_seq, ex_block]))
                            exact (hQ _ _ [] rfl rfl (by rw [hT])).1
                      · cases hf
                    · have d1 : decide ((a : Int) < (R : Int)) = true := decide_eq_true (by omega)
                      have d2 : decide ((R : Int) < (mid : Int)) = false := decide_eq_false (by omega)
                      rw [if_neg (fun h => c2 h.2)] at hT
                      repeat (first | refine tr_seq_k fun _ _ => ?_ | (refine tr_region ?_; simp only [go_sem, List.getElem?_toArray, reduceCtorEq, Nat.reduceEqDiff, Nat.reduceLT, ↓reduceIte, d1, d2]) | refine k_of (by assumption) ?_ | (refine tr_skip ?_; try simp only [ex_seq]))
                      refine tr_cond rfl (fun ht => ?_) (fun hf => ?_)
                      · cases ht
                      · clear d1 d2
                        unfold symT3 at hT
                        by_cases c1 : mid < e
                        · by_cases c2 : e < b
                          · have d1 : decide ((mid : Int) < (e : Int)) = true := decide_eq_true (by omega)
                            have d2 : decide ((e : Int) < (b : Int)) = true := decide_eq_true (by omega)
                            rw [if_pos ⟨c1, c2⟩] at hT
                            have cS3 := ih l mid e b hw c1 c2 (by omega) (by omega) (by omega) hsz
                            obtain ⟨l3, hl3⟩ : ∃ l3, l3 = symL ltA f l mid e b := ⟨_, rfl⟩
                            rw [← hl3] at cS3 hT
                            have hl3n : l3.length = l.length := by rw [hl3, symL_len]
                            have hl3s : ∀ x ∈ l3, AtSz x := fun x hx => hsz x (symL_mem _ _ _ _ _ (hl3 ▸ hx))
                            clear hl3
                            repeat (first | refine tr_seq_k fun _ _ => ?_ | (refine tr_region ?_; simp only [go_sem, List.getElem?_toArray, reduceCtorEq, Nat.reduceEqDiff, Nat.reduceLT, ↓reduceIte, d1, d2]) | refine k_of (by assumption) ?_ | (refine tr_skip ?_; try simp only [ex_seq]))
                            refine tr_cond rfl (fun ht => ?_) (fun hf => ?_)
                            · clear d1 d2
                              repeat (first | (refine tr_region ?_; simp only [go_sem, reduceCtorEq, Nat.reduceEqDiff, Nat.reduceLT, ↓reduceIte]) | (refine call_givesW (cS3) ?_; (try dsimp only); (try simp only [go_sem, reduceCtorEq, Nat.reduceEqDiff, Nat.reduceLT, Nat.reduceLeDiff, Nat.reduceAdd, Nat.reduceMul, Nat.reduceSub, Nat.reduceBEq, ↓reduceIte])))
                              exact (hQ _ _ [] rfl rfl (by rw [hT])).1
                            · cases hf
                          · have d1 : decide ((mid : Int) < (e : Int)) = true := decide_eq_true (by omega)
                            have d2 : decide ((e : Int) < (b : Int)) = false := decide_eq_false (by omega)
                            rw [if_neg (fun h => c2 h.2)] at hT
                            repeat (first | refine tr_seq_k fun _ _ => ?_ | (refine tr_region ?_; simp only [go_sem, List.getElem?_toArray, reduceCtorEq, Nat.reduceEqDiff, Nat.reduceLT, ↓reduceIte, d1, d2]) | refine k_of (by assumption) ?_ | (refine tr_skip ?_; try simp only [ex_seq]))
                            refine tr_cond rfl (fun ht => ?_) (fun hf => ?_)
                            · cases ht
                            · clear d1 d2
                              repeat ((refine tr_skip ?_; try simp only [ex_seq, ex_block]))
                              exact (hQ _ _ [] rfl rfl (by rw [hT])).1
                        · have d1 : decide ((mid : Int) < (e : Int)) = false := decide_eq_false (by omega)
                          rw [if_neg (fun h => c1 h.1)] at hT
                          repeat (first | refine tr_seq_k fun _ _ => ?_ | (refine tr_region ?_; simp only [go_sem, List.getElem?_toArray, reduceCtorEq, Nat.reduceEqDiff, Nat.reduceLT, ↓reduceIte, d1]) | refine k_of (by assumption) ?_ | (refine tr_skip ?_; try simp only [ex_seq]))
                          refine tr_cond rfl (fun ht => ?_) (fun hf => ?_)
                          · cases ht
                          · clear d1
                            repeat ((refine tr_skip ?_; try simp only [ex_seq, ex_block]))
                            exact (hQ _ _ [] rfl rfl (by rw [hT])).1
                  · have d1 : decide ((a : Int) < (R : Int)) = false := decide_eq_false (by omega)
                    rw [if_neg (fun h => c1 h.1)] at hT
                    repeat (first | refine tr_seq_k fun _ _ => ?_ | (refine tr_region ?_; simp only [go_sem, List.getElem?_toArray, reduceCtorEq, Nat.reduceEqDiff, Nat.reduceLT, ↓reduceIte, d1]) | refine k_of (by assumption) ?_ | (refine tr_skip ?_; try simp only [ex_seq]))
                    refine tr_cond rfl (fun ht => ?_) (fun hf => ?_)
                    · cases ht
                    · clear d1
                      unfold symT3 at hT
                      by_cases c1 : mid < e
                      · by_cases c2 : e < b
                        · have d1 : decide ((mid : Int) < (e : Int)) = true := decide_eq_true (by omega)
                          have d2 : decide ((e : Int) < (b : Int)) = true := decide_eq_true (by omega)
                          rw [if_pos ⟨c1, c2⟩] at hT
                          have cS3 := ih l mid e b hw c1 c2 (by omega) (by omega) (by omega) hsz
                          obtain ⟨l3, hl3⟩ : ∃ l3, l3 = symL ltA f l mid e b := ⟨_, rfl⟩
                          rw [← hl3] at cS3 hT
                          have hl3n : l3.length = l.length := by rw [hl3, symL_len]
                          have hl3s : ∀ x ∈ l3, AtSz x := fun x hx => hsz x (symL_mem _ _ _ _ _ (hl3 ▸ hx))
                          clear hl3
                          repeat (first | refine tr_seq_k fun _ _ => ?_ | (refine tr_region ?_; simp only [go_sem, List.getElem?_toArray, reduceCtorEq, Nat.reduceEqDiff, Nat.reduceLT, ↓reduceIte, d1, d2]) | refine k_of (by assumption) ?_ | (refine tr_skip ?_; try simp only [ex_seq]))
                          refine tr_cond rfl (fun ht => ?_) (fun hf => ?_)
                          · clear d1 d2
                            repeat (first | (refine tr_region ?_; simp only [go_sem, reduceCtorEq, Nat.reduceEqDiff, Nat.reduceLT, ↓reduceIte]) | (refine call_givesW (cS3) ?_; (try dsimp only); (try simp only [go_sem, reduceCtorEq, Nat.reduceEqDiff, Nat.reduceLT, Nat.reduceLeDiff, Nat.reduceAdd, Nat.reduceMul, Nat.reduceSub, Nat.reduceBEq, ↓reduceIte])))
                            exact (hQ _ _ [] rfl rfl (by rw [hT])).1
                          · cases hf
                        · have d1 : decide ((mid : Int) < (e : Int)) = true := decide_eq_true (by omega)
                          have d2 : decide ((e : Int) < (b : Int)) = false := decide_eq_false (by omega)
                          rw [if_neg (fun h => c2 h.2)] at hT
                          repeat (first | refine tr_seq_k fun _ _ => ?_ | (refine tr_region ?_; simp only [go_sem, List.getElem?_toArray, reduceCtorEq, Nat.reduceEqDiff, Nat.reduceLT, ↓reduceIte, d1, d2]) | refine k_of (by assumption) ?_ | (refine tr_skip ?_; try simp only [ex_seq]))
                          refine tr_cond rfl (fun ht => ?_) (fun hf => ?_)
                          · cases ht
                          · clear d1 d2
                            repeat ((refine tr_skip ?_; try simp only [ex_seq, ex_block]))
                            exact (hQ _ _ [] rfl rfl (by rw [hT])).1
                      · have d1 : decide ((mid : Int) < (e : Int)) = false := decide_eq_false (by omega)
                        rw [if_neg (fun h => c1 h.1)] at hT
                        repeat (first | refine tr_seq_k fun _ _ => ?_ | (refine tr_region ?_; simp only [go_sem, List.getElem?_toArray, reduceCtorEq, Nat.reduceEqDiff, Nat.reduceLT, ↓reduceIte, d1]) | refine k_of (by assumption) ?_ | (refine tr_skip ?_; try simp only [ex_seq]))
                        refine tr_cond rfl (fun ht => ?_) (fun hf => ?_)
                        · cases ht
                        · clear d1
                          repeat ((refine tr_skip ?_; try simp only [ex_seq, ex_block]))
                          exact (hQ _ _ [] rfl rfl (by rw [hT])).1
end Go.Proofs.YtinbfakpjnnagaaGreatDoor
namespace Go.Proofs.YtinbfakpjnnagaaGreatDoor
open Go.RowKit Go.Vs Go.Vs.Ab Go.Vs.Sm
set_option maxRecDepth 100000
set_option maxHeartbeats 4000000
theorem sym_gives : ∀ (f : Nat) (l : List Atm) (a m b : Nat) (hw : List Hw), a < m → m < b → b ≤ l.length → l.length ≤ 1000000 → b - a ≤ f → (∀ x ∈ l, AtSz x) → GivesW Tryz.prog 93 [.lsl 0 0 l.length 11, iA a, iA m, iA b, cmpF] ⟨[⟨false, blC atC l⟩], hw⟩ (.tup []) ⟨[⟨false, blC atC (symL ltA f l a m b)⟩], hw⟩
  | 0, l, a, m, b, hw, h1, h2, h3, h4, h5, h6 => by omega
  | f + 1, l, a, m, b, hw, h1, h2, h3, h4, h5, h6 => by
    by_cases c1 : m - a = 1
    · have e : symL ltA (f + 1) l a m b = upL l a (bs (fun h => ltAt ltA l h a) (b - m + 1) m b - 1 - a) := by unfold symL; rw [if_pos c1]
      rw [e]
      exact symA l a m b hw h1 h2 h3 h4 h6 c1
    · by_cases c2 : b - m = 1
      · have e : symL ltA (f + 1) l a m b = downL l m (m - bs (fun h => !ltAt ltA l m h) (m - a + 1) a m) := by unfold symL; rw [if_neg c1, if_pos c2]
        rw [e]
        exact symB l a m b hw h1 h2 h3 h4 h6 c1 c2
      · exact symC f (sym_gives f) l a m b hw h1 h2 h3 h4 h5 h6 c1 c2
theorem stab_gives (l : List Atm) (hw : List Hw) (hl : l.length ≤ 1000000) (hsz : ∀ x ∈ l, AtSz x) : GivesW Tryz.prog 79 [.lsl 0 0 l.length 11, iA l.length, cmpF] ⟨[⟨false, blC atC l⟩], hw⟩ (.tup []) ⟨[⟨false, blC atC (stableL ltA l)⟩], hw⟩ := by
  obtain ⟨T, hT⟩ : ∃ T, T = stableL ltA l := ⟨_, rfl⟩
  rw [← hT]
  unfold stableL at hT
  obtain ⟨T1, hT1⟩ : ∃ T1, T1 = ph1 ltA 20 (l.length + 1) l 0 := ⟨_, rfl⟩
  rw [← hT1] at hT
  refine givesW_of' Tryz.func79 rfl (by kernel_rfl) Tryz.ntmps79 rfl rfl fun Q hQ => ?_
  repeat (first | refine tr_seq_k fun _ _ => ?_ | (refine tr_region ?_; simp only [go_sem, reduceCtorEq, Nat.reduceEqDiff, Nat.reduceLT, Nat.reduceAdd, ↓reduceIte]) | refine k_of (by assumption) ?_ | refine tr_block ?_)
  refine tr_loop_k (σ := Nat × List Atm × Nat) (fun q => [(0, .lsl 0 0 l.length 11), (1, iA l.length), (2, cmpF), (6, iA 20), (7, iA q.2.2), (8, iA ((q.2.2 + 20 : Nat) : Int))]) (fun q => ⟨[⟨false, blC atC q.2.1⟩], hw⟩)
    (fun q => T1 = ph1 ltA 20 (q.1 + 1) q.2.1 q.2.2 ∧ q.2.1.length = l.length ∧ q.2.2 ≤ l.length ∧ l.length - q.2.2 ≤ q.1 ∧ ∀ x ∈ q.2.1, AtSz x) (fun q => l.length - q.2.2) (l.length, l, 0) ⟨hT1, rfl, Nat.zero_le _, Nat.le_refl _, hsz⟩ ⟨rfl, rfl, rfl, rfl, rfl, rfl, trivial⟩ rfl ?_
  rintro ⟨f, L, a⟩ ⟨hTT, hLl, hal, hf1, hLs⟩ K hK
  dsimp only at hTT hLl hal hf1 hLs ⊢
  have hu : ph1 ltA 20 (f + 1) L a = if a + 20 ≤ L.length then ph1 ltA 20 f (isL ltA L a 20) (a + 20) else isL ltA L a (L.length - a) := rfl
  rw [hu, hLl] at hTT
  by_cases c1 : a + 20 ≤ l.length
  · rw [if_pos c1] at hTT
    obtain ⟨f, rfl⟩ : ∃ g, f = g + 1 := ⟨f - 1, by omega⟩
    have q1 : decide (((a + 20 : Nat) : Int) ≤ ((l.length : Nat) : Int)) = true := decide_eq_true (by omega)
    have cI := ins_gives L a (a + 20) hw (by omega) (by omega) (by omega) hLs
    rw [hLl, show a + 20 - a = 20 by omega] at cI
    have ws : IntKind.i64.wrap (((a + 20 : Nat) : Int) + 20) = ((a + 20 + 20 : Nat) : Int) := by rw [wrap_in (by omega)]; omega
    have hn := isL_len (lt := ltA) L a 20
    have hm : ∀ x ∈ isL ltA L a 20, AtSz x := fun x hx => hLs x (isL_mem 20 hx)
    generalize isL ltA L a 20 = L2 at *
    repeat (first | refine tr_seq_k fun _ _ => ?_ | (refine tr_region ?_; simp only [go_sem, reduceCtorEq, Nat.reduceEqDiff, Nat.reduceLT, ↓reduceIte, q1]) | refine k_of (by assumption) ?_)
    refine tr_cond rfl (fun ht => ?_) (fun hf => ?_)
    · repeat (first | refine tr_seq_k fun _ _ => ?_ | (refine tr_region ?_; simp only [go_sem, reduceCtorEq, Nat.reduceEqDiff, Nat.reduceLT, ↓reduceIte, ws]) | (refine call_givesW (cI) ?_; (try dsimp only); (try simp only [go_sem, reduceCtorEq, Nat.reduceEqDiff, Nat.reduceLT, Nat.reduceLeDiff, Nat.reduceAdd, Nat.reduceMul, Nat.reduceSub, Nat.reduceBEq, ↓reduceIte, ws])) | refine k_of (by assumption) ?_ | refine tr_block ?_ | (refine tr_skip ?_; try simp only [ex_seq]))
      exact hK (f, L2, a + 20) _ _ ⟨hTT, by dsimp only; omega, c1, by dsimp only; omega, hm⟩ ⟨⟨rfl, rfl, rfl, rfl, rfl, rfl, trivial⟩, Keep.refl _, rfl, by simp only [lowB, lows_blC]; rfl, Nat.le_refl _, Nat.le_refl _⟩ (by dsimp only; omega)
    · cases hf
  · rw [if_neg c1] at hTT
    have q1 : decide (((a + 20 : Nat) : Int) ≤ ((l.length : Nat) : Int)) = false := decide_eq_false (by omega)
    have cI := ins_gives L a l.length hw hal (by omega) (by omega) hLs
    rw [hLl, ← hTT] at cI
    have hn1 : T1.length = l.length := by rw [hTT, isL_len, hLl]
    have hm1 : ∀ x ∈ T1, AtSz x := fun x hx => hLs x (by rw [hTT] at hx; exact isL_mem _ hx)
    clear hTT hu
    repeat (first | refine tr_seq_k fun _ _ => ?_ | (refine tr_region ?_; simp only [go_sem, reduceCtorEq, Nat.reduceEqDiff, Nat.reduceLT, ↓reduceIte, q1]) | refine k_of (by assumption) ?_)
    refine tr_cond rfl (fun ht => ?_) (fun hf => ?_)
    · cases ht
    · repeat (first | refine tr_seq_k fun _ _ => ?_ | (refine tr_region ?_; simp only [go_sem, reduceCtorEq, Nat.reduceEqDiff, Nat.reduceLT, ↓reduceIte]) | (refine call_givesW (cI) ?_; (try dsimp only); (try simp only [go_sem, reduceCtorEq, Nat.reduceEqDiff, Nat.reduceLT, Nat.reduceLeDiff, Nat.reduceAdd, Nat.reduceMul, Nat.reduceSub, Nat.reduceBEq, ↓reduceIte])) | refine k_of (by assumption) ?_ | refine tr_block ?_ | (refine tr_exit ?_; try simp only [ex_seq_exit, ex_block_exit, ex_seq, ↓reduceIte]))
      refine tr_loop_k (σ := Nat × List Atm × Nat) (fun q => [(0, .lsl 0 0 l.length 11), (1, iA l.length), (2, cmpF), (6, iA q.2.2)]) (fun q => ⟨[⟨false, blC atC q.2.1⟩], hw⟩)
        (fun q => T = phs ltA q.1 q.2.1 q.2.2 ∧ q.2.1.length = l.length ∧ 0 < q.2.2 ∧ l.length ≤ q.2.2 + q.1 ∧ ∀ x ∈ q.2.1, AtSz x) (fun q => l.length - q.2.2) (l.length, T1, 20) ⟨hT, hn1, by dsimp only; omega, by dsimp only; omega, hm1⟩ ⟨rfl, rfl, rfl, rfl, trivial⟩ rfl ?_
      rintro ⟨f, L, B⟩ ⟨hTT, hLl, hB, hf1, hLs⟩ K hK
      dsimp only at hTT hLl hB hf1 hLs ⊢
      by_cases c2 : B < l.length
      · obtain ⟨f, rfl⟩ : ∃ g, f = g + 1 := ⟨f - 1, by omega⟩
        have hu : phs ltA (f + 1) L B = if B < L.length then phs ltA f (ps ltA L.length B (L.length + 1) L 0) (2 * B) else L := rfl
        rw [hu, hLl, if_pos c2] at hTT
        obtain ⟨T2, hT2⟩ : ∃ T2, T2 = ps ltA l.length B (l.length + 1) L 0 := ⟨_, rfl⟩
        rw [← hT2] at hTT
        have q2 : decide ((B : Int) < ((l.length : Nat) : Int)) = true := decide_eq_true (by omega)
        have w2 : IntKind.i64.wrap (2 * (B : Int)) = ((2 * B : Nat) : Int) := by rw [wrap_in (by omega)]; omega
        have w3 : IntKind.i64.wrap ((B : Int) * 2) = ((2 * B : Nat) : Int) := by rw [wrap_in (by omega)]; omega
        have hend : T2.length = l.length → (∀ x ∈ T2, AtSz x) → ∀ fr' m', Back ⟨[⟨false, blC atC T2⟩], hw⟩ [(0, .lsl 0 0 l.length 11), (1, iA l.length), (2, cmpF), (6, iA ((2 * B : Nat) : Int))] ⟨[⟨false, blC atC T2⟩], hw⟩ fr' m' → K fr' m' := fun e1 e2 fr' m' hBk => hK (f, T2, 2 * B) fr' m' ⟨hTT, e1, by dsimp only; omega, by dsimp only; omega, e2⟩ ⟨hBk.sub, hBk.keep, hBk.lowf, by simp only [lowB, lows_blC]; rfl, Nat.le_refl _, Nat.le_refl _⟩ (by dsimp only; omega)
        repeat (first | refine tr_seq_k fun _ _ => ?_ | (refine tr_region ?_; simp only [go_sem, reduceCtorEq, Nat.reduceEqDiff, Nat.reduceLT, ↓reduceIte, q2]) | refine k_of (by assumption) ?_)
        refine tr_cond rfl (fun ht => ?_) (fun hf => ?_)
        · repeat (first | refine tr_seq_k fun _ _ => ?_ | (refine tr_region ?_; simp only [go_sem, reduceCtorEq, Nat.reduceEqDiff, Nat.reduceLT, ↓reduceIte, w2]) | refine k_of (by assumption) ?_ | refine tr_block ?_ | (refine tr_skip ?_; try simp only [ex_seq]))
          refine tr_loop_k (σ := Nat × List Atm × Nat) (fun q => [(0, .lsl 0 0 l.length 11), (1, iA l.length), (2, cmpF), (6, iA B), (7, iA q.2.2), (8, iA ((q.2.2 + 2 * B : Nat) : Int))]) (fun q => ⟨[⟨false, blC atC q.2.1⟩], hw⟩)
            (fun q => T2 = ps ltA l.length B (q.1 + 1) q.2.1 q.2.2 ∧ q.2.1.length = l.length ∧ q.2.2 ≤ l.length ∧ l.length - q.2.2 ≤ q.1 ∧ ∀ x ∈ q.2.1, AtSz x) (fun q => l.length - q.2.2) (l.length, L, 0) ⟨hT2, hLl, Nat.zero_le _, Nat.le_refl _, hLs⟩ ⟨rfl, rfl, rfl, rfl, rfl, by rw [Nat.zero_add]; rfl, trivial⟩ rfl ?_
          rintro ⟨g, M, a⟩ ⟨hTM, hMl, hal, hg1, hMs⟩ K2 hK2
          dsimp only at hTM hMl hal hg1 hMs ⊢
          have hv : ps ltA l.length B (g + 1) M a = if a + 2 * B ≤ M.length then ps ltA l.length B g (symL ltA l.length M a (a + B) (a + 2 * B)) (a + 2 * B) else if a + B < M.length then symL ltA l.length M a (a + B) M.length else M := rfl
          rw [hv, hMl] at hTM
          clear hv
          have w4 := wrap_addN (show a + B ≤ 1000000000 by omega)
          by_cases c3 : a + 2 * B ≤ l.length
          · rw [if_pos c3] at hTM
            obtain ⟨g, rfl⟩ : ∃ z, g = z + 1 := ⟨g - 1, by omega⟩
            have q3 : decide (((a + 2 * B : Nat) : Int) ≤ ((l.length : Nat) : Int)) = true := decide_eq_true (by omega)
            have cS := sym_gives l.length M a (a + B) (a + 2 * B) hw (by omega) (by omega) (by omega) (by omega) (by omega) hMs
            rw [hMl] at cS
            have hn := symL_len (lt := ltA) l.length M a (a + B) (a + 2 * B)
            have hm : ∀ x ∈ symL ltA l.length M a (a + B) (a + 2 * B), AtSz x := fun x hx => hMs x (symL_mem _ _ _ _ _ hx)
            generalize symL ltA l.length M a (a + B) (a + 2 * B) = M2 at *
            have w5 : IntKind.i64.wrap (((a + 2 * B : Nat) : Int) + ((2 * B : Nat) : Int)) = ((a + 2 * B + 2 * B : Nat) : Int) := by rw [wrap_in (by omega)]; omega
            repeat (first | refine tr_seq_k fun _ _ => ?_ | (refine tr_region ?_; simp only [go_sem, reduceCtorEq, Nat.reduceEqDiff, Nat.reduceLT, ↓reduceIte, q3]) | refine k_of (by assumption) ?_)
            refine tr_cond rfl (fun ht => ?_) (fun hf => ?_)
            · repeat (first | refine tr_seq_k fun _ _ => ?_ | (refine tr_region ?_; simp only [go_sem, reduceCtorEq, Nat.reduceEqDiff, Nat.reduceLT, ↓reduceIte, w2, w4, w5]) | (refine call_givesW (cS) ?_; (try dsimp only); (try simp only [go_sem, reduceCtorEq, Nat.reduceEqDiff, Nat.reduceLT, Nat.reduceLeDiff, Nat.reduceAdd, Nat.reduceMul, Nat.reduceSub, Nat.reduceBEq, ↓reduceIte, w2, w4, w5])) | refine k_of (by assumption) ?_ | refine tr_block ?_ | (refine tr_skip ?_; try simp only [ex_seq]))
              exact hK2 (g, M2, a + 2 * B) _ _ ⟨hTM, by dsimp only; omega, c3, by dsimp only; omega, hm⟩ ⟨⟨rfl, rfl, rfl, rfl, rfl, rfl, trivial⟩, Keep.refl _, rfl, by simp only [lowB, lows_blC]; rfl, Nat.le_refl _, Nat.le_refl _⟩ (by dsimp only; omega)
            · cases hf
          · rw [if_neg c3] at hTM
            have q3 : decide (((a + 2 * B : Nat) : Int) ≤ ((l.length : Nat) : Int)) = false := decide_eq_false (by omega)
            by_cases c4 : a + B < l.length
            · rw [if_pos c4] at hTM
              have q4 : decide (((a + B : Nat) : Int) < ((l.length : Nat) : Int)) = true := decide_eq_true (by omega)
              have cS := sym_gives l.length M a (a + B) l.length hw (by omega) (by omega) (by omega) (by omega) (by omega) hMs
              rw [hMl, ← hTM] at cS
              have hn : T2.length = l.length := by rw [hTM, symL_len, hMl]
              have hm : ∀ x ∈ T2, AtSz x := fun x hx => hMs x (by rw [hTM] at hx; exact symL_mem _ _ _ _ _ hx)
              repeat (first | refine tr_seq_k fun _ _ => ?_ | (refine tr_region ?_; simp only [go_sem, reduceCtorEq, Nat.reduceEqDiff, Nat.reduceLT, ↓reduceIte, q3]) | refine k_of (by assumption) ?_)
              refine tr_cond rfl (fun ht => ?_) (fun hf => ?_)
              · cases ht
              · repeat (first | refine tr_seq_k fun _ _ => ?_ | (refine tr_region ?_; simp only [go_sem, reduceCtorEq, Nat.reduceEqDiff, Nat.reduceLT, ↓reduceIte, w4, q4]) | refine k_of (by assumption) ?_ | (refine tr_exit ?_; try simp only [ex_seq_exit, ex_block_exit, ex_seq, ↓reduceIte]))
                refine tr_cond rfl (fun ht => ?_) (fun hf => ?_)
                · repeat (first | (refine tr_region ?_; simp only [go_sem, reduceCtorEq, Nat.reduceEqDiff, Nat.reduceLT, ↓reduceIte, w3]) | (refine call_givesW (cS) ?_; (try dsimp only); (try simp only [go_sem, reduceCtorEq, Nat.reduceEqDiff, Nat.reduceLT, Nat.reduceLeDiff, Nat.reduceAdd, Nat.reduceMul, Nat.reduceSub, Nat.reduceBEq, ↓reduceIte, w3])) | refine k_of (by assumption) ?_)
                  exact hend hn hm _ _ ⟨⟨rfl, rfl, rfl, rfl, trivial⟩, Keep.refl _, rfl, by simp only [lowB, lows_blC]; rfl, Nat.le_refl _, Nat.le_refl _⟩
                · cases hf
            · rw [if_neg c4] at hTM
              have q4 : decide (((a + B : Nat) : Int) < ((l.length : Nat) : Int)) = false := decide_eq_false (by omega)
              subst hTM
              repeat (first | refine tr_seq_k fun _ _ => ?_ | (refine tr_region ?_; simp only [go_sem, reduceCtorEq, Nat.reduceEqDiff, Nat.reduceLT, ↓reduceIte, q3]) | refine k_of (by assumption) ?_)
              refine tr_cond rfl (fun ht => ?_) (fun hf => ?_)
              · cases ht
              · repeat (first | refine tr_seq_k fun _ _ => ?_ | (refine tr_region ?_; simp only [go_sem, reduceCtorEq, Nat.reduceEqDiff, Nat.reduceLT, ↓reduceIte, w4, q4]) | refine k_of (by assumption) ?_ | (refine tr_exit ?_; try simp only [ex_seq_exit, ex_block_exit, ex_seq, ↓reduceIte]))
                refine tr_cond rfl (fun ht => ?_) (fun hf => ?_)
                · cases ht
                · repeat (first | (refine tr_region ?_; simp only [go_sem, reduceCtorEq, Nat.reduceEqDiff, Nat.reduceLT, ↓reduceIte, w3]) | refine k_of (by assumption) ?_ | (refine tr_skip ?_; try simp only [ex_seq]))
                  exact hend hMl hMs _ _ ⟨⟨rfl, rfl, rfl, rfl, trivial⟩, Keep.refl _, rfl, by simp only [lowB, lows_blC]; rfl, Nat.le_refl _, Nat.le_refl _⟩
        · cases hf
      · have q2 : decide ((B : Int) < ((l.length : Nat) : Int)) = false := decide_eq_false (by omega)
        have hTL : T = L := by
          rw [hTT]
          cases f with
          | zero => rfl
          | succ f => show (if B < L.length then _ else _) = _; rw [if_neg (by omega)]
        repeat (first | refine tr_seq_k fun _ _ => ?_ | (refine tr_region ?_; simp only [go_sem, reduceCtorEq, Nat.reduceEqDiff, Nat.reduceLT, ↓reduceIte, q2]) | refine k_of (by assumption) ?_)
        refine tr_cond rfl (fun ht => ?_) (fun hf => ?_)
        · cases ht
        · repeat ((refine tr_exit ?_; try simp only [ex_seq_exit, ex_block_exit, ↓reduceIte]))
          exact (hQ _ _ [] rfl rfl (by rw [hTL])).1
theorem sort_gives (l : List Atm) (hw : List Hw) (hl : l.length ≤ 1000000) (hsz : ∀ x ∈ l, AtSz x) : GivesW Tryz.prog 58 [.lsl 0 0 l.length 11, cmpF] ⟨[⟨false, blC atC l⟩], hw⟩ (.tup []) ⟨[⟨false, blC atC (srt ltA l)⟩], hw⟩ := by
  have c := stab_gives l hw hl hsz
  rw [stable_law (totK txA)] at c
  refine givesW_of' Tryz.func58 rfl (by kernel_rfl) Tryz.ntmps58 rfl rfl fun Q hQ => ?_
  repeat (first | (refine tr_region ?_; simp only [go_sem, List.getElem?_toArray, reduceCtorEq, Nat.reduceEqDiff, Nat.reduceLT, ↓reduceIte]) | (refine call_givesW (c) ?_; (try dsimp only); (try simp only [go_sem, reduceCtorEq, Nat.reduceEqDiff, Nat.reduceLT, Nat.reduceLeDiff, Nat.reduceAdd, Nat.reduceMul, Nat.reduceSub, Nat.reduceBEq, ↓reduceIte])))
  exact (hQ _ _ [] rfl rfl rfl).1
end Go.Proofs.YtinbfakpjnnagaaGreatDoor
namespace Go.Vs.Sm
variable {T : Type}
def kpN (eq : T → T → Bool) (l : List T) : Nat → List T
  | 0 => []
  | j + 1 => kpN eq l j ++ (match l[j]? with
    | none => []
    | some y => match l[j - 1]? with
      | none => [y]
      | some x => if (0 < j ∧ eq y x = true) then [] else [y])
theorem kpN_first {eq : T → T → Bool} {l : List T} (h : 0 < l.length) : kpN eq l 1 = [l[0]] := by
  unfold kpN kpN
  rw [List.getElem?_eq_getElem h]
  simp []
theorem kpN_next {eq : T → T → Bool} {l : List T} {j : Nat} (h0 : 0 < j) (h : j < l.length) : kpN eq l (j + 1) = if eq l[j] l[j - 1] = true then kpN eq l j else kpN eq l j ++ [l[j]] := by
  rw [kpN, List.getElem?_eq_getElem h, List.getElem?_eq_getElem (by omega)]
  dsimp only
  by_cases he : eq l[j] l[j - 1] = true
  · rw [if_pos ⟨h0, he⟩, if_pos he, List.append_nil]
  · rw [if_neg (fun h => he h.2), if_neg he]
theorem kpN_len (eq : T → T → Bool) (l : List T) : ∀ j, (kpN eq l j).length ≤ j
  | 0 => Nat.le_refl _
  | j + 1 => by
    have ih := kpN_len eq l j
    rw [kpN, List.length_append]
    cases hj : l[j]? with
    | none => show _ + 0 ≤ _; omega
    | some y => cases hq : l[j - 1]? with
      | none => show _ + 1 ≤ _; omega
      | some x =>
        dsimp only
        split
        · show _ + 0 ≤ _; omega
        · show _ + 1 ≤ _; omega
def dfN (eq : T → T → Bool) (l : List T) (j : Nat) : List T := kpN eq l j ++ l.drop (kpN eq l j).length
theorem dfN_len (eq : T → T → Bool) (l : List T) {j : Nat} (hj : j ≤ l.length) : (dfN eq l j).length = l.length := by
  unfold dfN
  have := kpN_len eq l j
  rw [List.length_append, List.length_drop]
  omega
theorem dfN_at (eq : T → T → Bool) (l : List T) {j i : Nat} (hj : j ≤ l.length) (hk : (kpN eq l j).length ≤ i) (hi : i < l.length) : (dfN eq l j)[i]'(by rw [dfN_len eq l hj]; exact hi) = l[i] := by
  unfold dfN
  rw [List.getElem_append_right hk, List.getElem_drop]
  congr 1
  omega
theorem dfN_set {eq : T → T → Bool} {l : List T} {j : Nat} (h0 : 0 < j) (h : j < l.length) (he : eq l[j] l[j - 1] = false) : (dfN eq l j).set (kpN eq l j).length l[j] = dfN eq l (j + 1) := by
  have hl := kpN_len eq l j
  have e : kpN eq l (j + 1) = kpN eq l j ++ [l[j]] := by rw [kpN_next h0 h, if_neg (by rw [he]; decide)]
  unfold dfN
  rw [e, List.set_append_right _ _ (Nat.le_refl _), Nat.sub_self, List.length_append, List.length_singleton, List.append_assoc]
  congr 1
  have hlt : (kpN eq l j).length < l.length := by omega
  rw [List.drop_eq_getElem_cons hlt, List.set_cons_zero]
  rfl
theorem kpN_all {eq : T → T → Bool} {l : List T} : ∀ j, j ≤ l.length → (∀ i (hi : i < l.length), 0 < i → i < j → eq l[i] l[i - 1] = false) → kpN eq l j = l.take j
  | 0, _, _ => rfl
  | j + 1, hj, h => by
    have ih := kpN_all j (by omega) (fun i hi h0 h1 => h i hi h0 (by omega))
    rcases Nat.eq_zero_or_pos j with rfl | h0
    · rw [kpN_first (by omega), List.take_succ_eq_append_getElem (by omega)]
      rfl
    · rw [kpN_next h0 (by omega), if_neg (by rw [h j (by omega) h0 (by omega)]; decide), ih, List.take_succ_eq_append_getElem (by omega)]
/-! ### the same as what is kept of the runs of equals -/
def adjD (eq : T → T → Bool) (p : T) : List T → List T
  | [] => []
  | y :: r => if eq y p = true then adjD eq y r else y :: adjD eq y r
def lastD (p : T) : List T → T
  | [] => p
  | y :: r => lastD y r
theorem lastD_snoc (y : T) : ∀ (p : T) (r : List T), lastD p (r ++ [y]) = y
  | _, [] => rfl
  | p, z :: r => lastD_snoc y z r
theorem adjD_snoc (eq : T → T → Bool) (y : T) : ∀ (p : T) (r : List T), adjD eq p (r ++ [y]) = adjD eq p r ++ (if eq y (lastD p r) = true then [] else [y])
  | p, [] => by
    show (if eq y p = true then [] else [y]) = _
    rfl
  | p, z :: r => by
    have ih := adjD_snoc eq y z r
    show (if eq z p = true then adjD eq z (r ++ [y]) else z :: adjD eq z (r ++ [y])) = (if eq z p = true then adjD eq z r else z :: adjD eq z r) ++ _
    rw [ih]
    split <;> rfl
theorem lastD_get (x : T) (r : List T) : ∀ j (hj : j < (x :: r).length), lastD x (r.take j) = (x :: r)[j]
  | 0, _ => rfl
  | j + 1, hj => by
    have hj' : j < r.length := by simpa using hj
    rw [List.take_succ_eq_append_getElem hj', lastD_snoc]
    rfl
theorem kpN_adj (eq : T → T → Bool) (x : T) (r : List T) : ∀ j, j ≤ r.length → kpN eq (x :: r) (j + 1) = x :: adjD eq x (r.take j)
  | 0, _ => by rw [kpN_first (by simp)]; rfl
  | j + 1, hj => by
    have hj' : j < r.length := by omega
    have ih := kpN_adj eq x r j (by omega)
    rw [kpN_next (by omega) (by simpa using hj'), ih, List.take_succ_eq_append_getElem hj', adjD_snoc, lastD_get x r j (by simp; omega)]
    have e1 : (x :: r)[j + 1]'(by simpa using hj') = r[j] := rfl
    have e2 : (x :: r)[j + 1 - 1]'(by simp; omega) = (x :: r)[j]'(by simp; omega) := rfl
    rw [e1, e2]
    split
    · rw [List.append_nil]
    · rfl
theorem adjD_cm {lt : T → T → Bool} (O : Tot lt) : ∀ (x : T) (r : List T), adjD (eqB lt) x r = cm lt (dropEq lt x r)
  | x, [] => rfl
  | x, y :: r => by
    have ih := adjD_cm O y r
    unfold adjD dropEq
    by_cases h : eqB lt y x = true
    · rw [if_pos h, if_pos h, ih, dropEq_congr O h]
    · rw [if_neg h, if_neg h, cm_cons, ih]
theorem kpN_cm {lt : T → T → Bool} (O : Tot lt) (l : List T) : kpN (eqB lt) l l.length = cm lt l := by
  cases l with
  | nil => rfl
  | cons x r =>
    rw [List.length_cons, kpN_adj _ x r r.length (Nat.le_refl _), List.take_length, adjD_cm O, cm_cons]
theorem mem_merge' {le : T → T → Bool} {x : T} : ∀ {a b : List T}, x ∈ List.merge a b le → x ∈ a ∨ x ∈ b := fun {a b} h => List.mem_merge.1 h
theorem srt_mem {lt : T → T → Bool} {x : T} : ∀ {l : List T}, x ∈ srt lt l → x ∈ l := fun {l} => by
  have key : ∀ (k : Nat) (l : List T), l.length = k → x ∈ srt lt l → x ∈ l := fun k => by
    induction k with
    | zero => intro l hl h; rw [List.eq_nil_of_length_eq_zero hl] at h; exact absurd h (by simp [srt])
    | succ k ih =>
      intro l hl h
      have hne : l ≠ [] := fun e => by rw [e] at hl; cases hl
      rw [← List.dropLast_concat_getLast hne, srt_snoc] at h
      rw [← List.dropLast_concat_getLast hne, List.mem_append]
      rcases mem_merge' h with h | h
      · exact Or.inl (ih _ (by rw [List.length_dropLast]; omega) h)
      · exact Or.inr h
  exact key _ l rfl
end Go.Vs.Sm
namespace Go.Proofs.YtinbfakpjnnagaaGreatDoor
open Go.RowKit Go.Vs Go.Vs.Ab Go.Vs.Sm
set_option maxRecDepth 100000
set_option maxHeartbeats 4000000
theorem cmpA_eq (a b : Atm) : decide (cmpA a b = 0) = eqB ltA a b := by
  have h := cmp_bl (txA a) (txA b)
  show decide (Lib.compareBytes (txA a) (txA b) = 0) = (!bl (txA a) (txA b) && !bl (txA b) (txA a))
  cases e1 : bl (txA a) (txA b) with
  | true =>
    have := h.1.2 e1
    exact decide_eq_false (by omega)
  | false =>
    cases e2 : bl (txA b) (txA a) with
    | true =>
      have := h.2.2 e2
      exact decide_eq_false (by omega)
    | false =>
      refine decide_eq_true ?_
      have a1 : ¬ Lib.compareBytes (txA a) (txA b) < 0 := fun q => by rw [h.1.1 q] at e1; cases e1
      have a2 : ¬ 0 < Lib.compareBytes (txA a) (txA b) := fun q => by rw [h.2.1 q] at e2; cases e2
      omega
def EqA : Atm → Atm → Bool := eqB ltA
abbrev eqF : AV := .fn (.func 61) [] []
theorem eqS_does (a b : Atm) (ha : AtSz a) (hb : AtSz b) : Does Tryz.prog 61 [atA a, atA b] (fun m => (bA (EqA a b), m)) := by
  have c1 := cmpA_does a b ha hb
  have e : decide (cmpA a b = 0) = EqA a b := cmpA_eq a b
  refine does_of' Tryz.func61 rfl (by kernel_rfl) rfl Tryz.ntmps61 rfl rfl fun Q hQ => ?_
  repeat (first | refine tr_seq_k fun _ _ => ?_ | (refine tr_region ?_; simp only [go_sem, reduceCtorEq, Nat.reduceEqDiff, Nat.reduceLT, Nat.reduceLeDiff, Nat.reduceAdd, ↓reduceIte]) | (refine call_of (c1) ?_ ?_; (first | rfl | simp only [go_sem, reduceCtorEq, Nat.reduceEqDiff, Nat.reduceLT, Nat.reduceLeDiff, Nat.reduceAdd, Nat.reduceMul, Nat.reduceSub, Nat.reduceBEq, ↓reduceIte, e, shut_col]); simp only [go_sem, reduceCtorEq, Nat.reduceEqDiff, Nat.reduceLT, ↓reduceIte, e]) | refine k_of (by assumption) ?_ | (refine tr_ret ?_; try simp only [ex_seq_ret, ex_block_ret]))
  refine (hQ _ _ [bA (EqA a b)] ?_ (fun m => ?_)).2 <;> simp only [go_sem, reduceCtorEq, Nat.reduceEqDiff, ↓reduceIte, Tryz.f61,]
theorem zeA13 : tzero Tryz.prog 33 = some (atC z12) := by kernel_rfl
theorem ixLB {lo n k : Nat} (h : k < n) : aIndexL Tryz.prog 34 (.lsl 0 lo n 11) (.c (.v (.int .i64 (k : Int)))) = some (.ptr 0 ((lo + k) * 11)) :=
  idxL (P := Tryz.prog) (size := 11) Tryz.underlying34 sz33 (by decide) (b := 0) (lo := lo) (ik := .i64) h
theorem compact_gives (l : List Atm) (hw : List Hw) (hl : l.length ≤ 1000000) (hsz : ∀ x ∈ l, AtSz x) : ∃ R, GivesW Tryz.prog 60 [.lsl 0 0 l.length 11, eqF] ⟨[⟨false, blC atC l⟩], hw⟩ (.lsl 0 0 (kpN EqA l l.length).length 11) ⟨[⟨false, blC atC (kpN EqA l l.length ++ R)⟩], hw⟩ := by
  by_cases hall : ∀ i (hi : i < l.length), 0 < i → EqA l[i] l[i - 1] = false
  · refine ⟨[], ?_⟩
    rw [List.append_nil, kpN_all l.length (Nat.le_refl _) (fun i hi h0 _ => hall i hi h0), List.take_length]
    by_cases h2 : l.length < 2
    · have q0 : decide (((l.length : Nat) : Int) < 2) = true := decide_eq_true (by omega)
      refine givesW_of' Tryz.func60 rfl (by kernel_rfl) Tryz.ntmps60 rfl rfl fun Q hQ => ?_
      repeat (first | refine tr_seq_k fun _ _ => ?_ | (refine tr_region ?_; simp only [go_sem, List.getElem?_toArray, reduceCtorEq, Nat.reduceEqDiff, Nat.reduceLT, ↓reduceIte, q0]) | refine k_of (by assumption) ?_)
      refine tr_cond rfl (fun ht => ?_) (fun hf => ?_)
      · repeat (first | refine tr_seq_k fun _ _ => ?_ | (refine tr_region ?_; simp only [go_sem, reduceCtorEq, Nat.reduceEqDiff, Nat.reduceLT, ↓reduceIte]) | refine k_of (by assumption) ?_ | (refine tr_ret ?_; try simp only [ex_seq_ret]))
        refine (hQ _ _ [.lsl 0 0 l.length 11] ?_ rfl rfl).2 <;> simp only [go_sem, reduceCtorEq, Nat.reduceEqDiff, ↓reduceIte, Tryz.f60]
      · cases hf
    · have q0 : decide (((l.length : Nat) : Int) < 2) = false := decide_eq_false (by omega)
      refine givesW_of' Tryz.func60 rfl (by kernel_rfl) Tryz.ntmps60 rfl rfl fun Q hQ => ?_
      repeat (first | refine tr_seq_k fun _ _ => ?_ | (refine tr_region ?_; simp only [go_sem, List.getElem?_toArray, reduceCtorEq, Nat.reduceEqDiff, Nat.reduceLT, ↓reduceIte, q0]) | refine k_of (by assumption) ?_)
      refine tr_cond rfl (fun ht => ?_) (fun hf => ?_)
      · cases ht
      · repeat (first | refine tr_seq_k fun _ _ => ?_ | (refine tr_region ?_; simp only [go_sem, reduceCtorEq, Nat.reduceEqDiff, Nat.reduceLT, ↓reduceIte]) | refine k_of (by assumption) ?_ | refine tr_block ?_ | (refine tr_skip ?_; try simp only [ex_seq]))
        refine tr_loop_k (σ := Nat) (fun k => [(0, .lsl 0 0 l.length 11), (1, eqF), (5, iA k)]) (fun k => ⟨[⟨false, blC atC l⟩], hw⟩)
          (fun k => 1 ≤ k ∧ k ≤ l.length) (fun k => l.length - k) 1 ⟨Nat.le_refl _, by omega⟩ ⟨rfl, rfl, rfl, trivial⟩ rfl ?_
        rintro k ⟨hk1, hk⟩ K hK
        by_cases hkl : k < l.length
        · have q1 : decide ((k : Int) < ((l.length : Nat) : Int)) = true := decide_eq_true (by omega)
          have hk2 : k - 1 < l.length := by omega
          have ws := wrap_succ (show k ≤ 1000000000 by omega)
          have wp := wrap_pre (show 0 < k by omega) (by omega)
          have cE := eqS_does l[k] l[k - 1] (hsz _ (List.getElem_mem hkl)) (hsz _ (List.getElem_mem hk2))
          rw [hall k hkl (by omega)] at cE
          have d1 := drLA hkl
          have d2 := drLA hk2
          repeat (first | refine tr_seq_k fun _ _ => ?_ | (refine tr_region ?_; simp only [go_sem, List.getElem?_toArray, reduceCtorEq, Nat.reduceEqDiff, Nat.reduceLT, ↓reduceIte, q1]) | refine k_of (by assumption) ?_)
          refine tr_cond rfl (fun ht => ?_) (fun hf => ?_)
          · repeat (first | refine tr_seq_k fun _ _ => ?_ | (refine tr_draw (id := 6) follows 10000 [10] [0, 1, 2, 3, 4, 5, 6, 7, 8, 9, 10] (by kernel_rfl) ?_; simp only [go_sem, List.getElem?_toArray, reduceCtorEq, Nat.reduceEqDiff, Nat.reduceLT, ↓reduceIte, wp, ixLA hkl, ixLA hk2, d1, d2, fitLA hkl, fitLA hk2]) | (refine call_of (cE) ?_ ?_; (first | rfl | simp only [go_sem, reduceCtorEq, Nat.reduceEqDiff, Nat.reduceLT, Nat.reduceLeDiff, Nat.reduceAdd, Nat.reduceMul, Nat.reduceSub, Nat.reduceBEq, ↓reduceIte, wp, ixLA hkl, ixLA hk2, d1, d2, fitLA hkl, fitLA hk2, shut_col]); simp only [go_sem, Bool.true_or]) | refine k_of (by assumption) ?_ | refine tr_block ?_ | (refine tr_skip ?_; try simp only [ex_seq]))
            refine tr_cond rfl (fun ht => ?_) (fun hf => ?_)
            · cases ht
            · repeat (first | (refine tr_region ?_; simp only [go_sem, reduceCtorEq, Nat.reduceEqDiff, Nat.reduceLT, ↓reduceIte, ws]) | refine k_of (by assumption) ?_ | (refine tr_skip ?_; try simp only [ex_seq, ex_block]))
              exact hK (k + 1) _ _ ⟨by omega, hkl⟩ ⟨⟨rfl, rfl, rfl, trivial⟩, Keep.refl _, rfl, by simp only [lowB, lows_blC]; rfl, Nat.le_refl _, Nat.le_refl _⟩ (by omega)
          · cases hf
        · have q1 : decide ((k : Int) < ((l.length : Nat) : Int)) = false := decide_eq_false (by omega)
          repeat (first | refine tr_seq_k fun _ _ => ?_ | (refine tr_region ?_; simp only [go_sem, List.getElem?_toArray, reduceCtorEq, Nat.reduceEqDiff, Nat.reduceLT, ↓reduceIte, q1]) | refine k_of (by assumption) ?_)
          refine tr_cond rfl (fun ht => ?_) (fun hf => ?_)
          · cases ht
          · repeat (first | refine tr_seq_k fun _ _ => ?_ | (refine tr_region ?_; simp only [go_sem, reduceCtorEq, Nat.reduceEqDiff, Nat.reduceLT, ↓reduceIte]) | refine k_of (by assumption) ?_ | (refine tr_exit ?_; try simp only [ex_seq_exit, ex_block_exit, ex_seq, ↓reduceIte]) | (refine tr_ret ?_; try simp only [ex_seq_ret, ex_block_ret]))
            refine (hQ _ _ [.lsl 0 0 l.length 11] ?_ rfl rfl).2 <;> simp only [go_sem, reduceCtorEq, Nat.reduceEqDiff, ↓reduceIte, Tryz.f60]
  · refine ⟨List.replicate (l.length - (kpN EqA l l.length).length) z12, ?_⟩
    have h2 : ¬ l.length < 2 := fun h => hall fun i hi h0 => by omega
    have q0 : decide (((l.length : Nat) : Int) < 2) = false := decide_eq_false (by omega)
    refine givesW_of' Tryz.func60 rfl (by kernel_rfl) Tryz.ntmps60 rfl rfl fun Q hQ => ?_
    repeat (first | refine tr_seq_k fun _ _ => ?_ | (refine tr_region ?_; simp only [go_sem, List.getElem?_toArray, reduceCtorEq, Nat.reduceEqDiff, Nat.reduceLT, ↓reduceIte, q0]) | refine k_of (by assumption) ?_)
    refine tr_cond rfl (fun ht => ?_) (fun hf => ?_)
    · cases ht
    · repeat (first | refine tr_seq_k fun _ _ => ?_ | (refine tr_region ?_; simp only [go_sem, reduceCtorEq, Nat.reduceEqDiff, Nat.reduceLT, ↓reduceIte]) | refine k_of (by assumption) ?_ | refine tr_block ?_ | (refine tr_skip ?_; try simp only [ex_seq]))
      refine tr_loop_k (σ := Nat) (fun k => [(0, .lsl 0 0 l.length 11), (1, eqF), (5, iA k)]) (fun k => ⟨[⟨false, blC atC l⟩], hw⟩)
        (fun k => 1 ≤ k ∧ k ≤ l.length ∧ ∀ i (hi : i < l.length), 0 < i → i < k → EqA l[i] l[i - 1] = false) (fun k => l.length - k) 1 ⟨Nat.le_refl _, by omega, fun i hi h0 h1 => by omega⟩ ⟨rfl, rfl, rfl, trivial⟩ rfl ?_
      rintro k ⟨hk1, hk, hno⟩ K hK
      by_cases hkl : k < l.length
      · have q1 : decide ((k : Int) < ((l.length : Nat) : Int)) = true := decide_eq_true (by omega)
        have hk2 : k - 1 < l.length := by omega
        have ws := wrap_succ (show k ≤ 1000000000 by omega)
        have wp := wrap_pre (show 0 < k by omega) (by omega)
        have cE := eqS_does l[k] l[k - 1] (hsz _ (List.getElem_mem hkl)) (hsz _ (List.getElem_mem hk2))
        have d1 := drLA hkl
        have d2 := drLA hk2
        cases hE : EqA l[k] l[k - 1] with
        | false =>
          rw [hE] at cE
          repeat (first | refine tr_seq_k fun _ _ => ?_ | (refine tr_region ?_; simp only [go_sem, List.getElem?_toArray, reduceCtorEq, Nat.reduceEqDiff, Nat.reduceLT, ↓reduceIte, q1]) | refine k_of (by assumption) ?_)
          refine tr_cond rfl (fun ht => ?_) (fun hf => ?_)
          · repeat (first | refine tr_seq_k fun _ _ => ?_ | (refine tr_draw (id := 6) follows 10000 [10] [0, 1, 2, 3, 4, 5, 6, 7, 8, 9, 10] (by kernel_rfl) ?_; simp only [go_sem, List.getElem?_toArray, reduceCtorEq, Nat.reduceEqDiff, Nat.reduceLT, ↓reduceIte, wp, ixLA hkl, ixLA hk2, d1, d2, fitLA hkl, fitLA hk2]) | (refine call_of (cE) ?_ ?_; (first | rfl | simp only [go_sem, reduceCtorEq, Nat.reduceEqDiff, Nat.reduceLT, Nat.reduceLeDiff, Nat.reduceAdd, Nat.reduceMul, Nat.reduceSub, Nat.reduceBEq, ↓reduceIte, wp, ixLA hkl, ixLA hk2, d1, d2, fitLA hkl, fitLA hk2, shut_col]); simp only [go_sem, Bool.true_or]) | refine k_of (by assumption) ?_ | refine tr_block ?_ | (refine tr_skip ?_; try simp only [ex_seq]))
            refine tr_cond rfl (fun ht => ?_) (fun hf => ?_)
            · cases ht
            · repeat (first | (refine tr_region ?_; simp only [go_sem, reduceCtorEq, Nat.reduceEqDiff, Nat.reduceLT, ↓reduceIte, ws]) | refine k_of (by assumption) ?_ | (refine tr_skip ?_; try simp only [ex_seq, ex_block]))
              exact hK (k + 1) _ _ ⟨by omega, hkl, fun i hi h0 h1 => by
                by_cases e : i = k
                · subst e; exact hE
                · exact hno i hi h0 (by omega)⟩ ⟨⟨rfl, rfl, rfl, trivial⟩, Keep.refl _, rfl, by simp only [lowB, lows_blC]; rfl, Nat.le_refl _, Nat.le_refl _⟩ (by omega)
          · cases hf
        | true =>
          rw [hE] at cE
          have sl := slL_from (P := Tryz.prog) (size := 11) Tryz.underlying34 sz33 (b := 0) (lo := 0) hk
          rw [Nat.zero_add] at sl
          have hkp : kpN EqA l k = l.take k := kpN_all k hk hno
          have hkp1 : kpN EqA l (k + 1) = l.take k := by rw [kpN_next (by omega) hkl, if_pos hE, hkp]
          have hlen1 : (kpN EqA l (k + 1)).length = k := by rw [hkp1, List.length_take]; omega
          have hdf1 : dfN EqA l (k + 1) = l := by unfold dfN; rw [hlen1, hkp1, List.take_append_drop]
          repeat (first | refine tr_seq_k fun _ _ => ?_ | (refine tr_region ?_; simp only [go_sem, List.getElem?_toArray, reduceCtorEq, Nat.reduceEqDiff, Nat.reduceLT, ↓reduceIte, q1]) | refine k_of (by assumption) ?_)
          refine tr_cond rfl (fun ht => ?_) (fun hf => ?_)
          · repeat (first | refine tr_seq_k fun _ _ => ?_ | (refine tr_draw (id := 6) follows 10000 [10] [0, 1, 2, 3, 4, 5, 6, 7, 8, 9, 10] (by kernel_rfl) ?_; simp only [go_sem, List.getElem?_toArray, reduceCtorEq, Nat.reduceEqDiff, Nat.reduceLT, ↓reduceIte, wp, ixLA hkl, ixLA hk2, d1, d2, fitLA hkl, fitLA hk2]) | (refine call_of (cE) ?_ ?_; (first | rfl | simp only [go_sem, reduceCtorEq, Nat.reduceEqDiff, Nat.reduceLT, Nat.reduceLeDiff, Nat.reduceAdd, Nat.reduceMul, Nat.reduceSub, Nat.reduceBEq, ↓reduceIte, wp, ixLA hkl, ixLA hk2, d1, d2, fitLA hkl, fitLA hk2, shut_col]); simp only [go_sem, Bool.true_or]) | refine k_of (by assumption) ?_ | refine tr_block ?_ | (refine tr_skip ?_; try simp only [ex_seq]))
            refine tr_cond rfl (fun ht => ?_) (fun hf => ?_)
            · repeat (first | refine tr_seq_k fun _ _ => ?_ | (refine tr_region ?_; simp only [go_sem, reduceCtorEq, Nat.reduceEqDiff, Nat.reduceLT, ↓reduceIte, sl]) | refine k_of (by assumption) ?_ | refine tr_block ?_)
              refine tr_loop_k (σ := Nat) (fun q => [(0, .lsl 0 0 l.length 11), (1, eqF), (5, iA (kpN EqA l (k + q)).length), (6, .lsl 0 k (l.length - k) 11), (7, iA q)]) (fun q => ⟨[⟨false, blC atC (dfN EqA l (k + q))⟩], hw⟩)
                (fun q => 1 ≤ q ∧ k + q ≤ l.length ∧ (kpN EqA l (k + q)).length + 1 ≤ k + q) (fun q => l.length - (k + q)) 1 ⟨Nat.le_refl _, by omega, by omega⟩ ⟨rfl, rfl, by rw [hlen1]; rfl, rfl, rfl, trivial⟩ (by rw [hdf1]) ?_
              rintro q ⟨hq1, hq, hkl2⟩ K2 hK2
              have hKq := hK2 (q + 1)
              by_cases hql : k + q < l.length
              · have q2 : decide ((q : Int) < ((l.length - k : Nat) : Int)) = true := decide_eq_true (by omega)
                have ws2 := wrap_succ (show q ≤ 1000000000 by omega)
                have wp2 := wrap_pre (show 0 < q by omega) (by omega)
                have wk := wrap_succ (show (kpN EqA l (k + q)).length ≤ 1000000000 by omega)
                have hq2 : k + q - 1 < l.length := by omega
                have hdl := dfN_len EqA l hq
                have b1 : k + q < (dfN EqA l (k + q)).length := by rw [hdl]; exact hql
                have b2 : k + q - 1 < (dfN EqA l (k + q)).length := by rw [hdl]; exact hq2
                have b3 : (kpN EqA l (k + q)).length < (dfN EqA l (k + q)).length := by rw [hdl]; omega
                have b3' : (kpN EqA l (k + q)).length < l.length := by omega
                have d3 := drLA b1
                have d4 := drLA b2
                rw [dfN_at EqA l hq (by omega) hql] at d3
                rw [dfN_at EqA l hq (by omega) hq2] at d4
                have i1 := ixLB (lo := k) (show q < l.length - k by omega)
                have i2 := ixLB (lo := k) (show q - 1 < l.length - k by omega)
                rw [show k + (q - 1) = k + q - 1 by omega] at i2
                have cF := eqS_does l[k + q] l[k + q - 1] (hsz _ (List.getElem_mem hql)) (hsz _ (List.getElem_mem hq2))
                have hnx := kpN_next (eq := EqA) (show 0 < k + q by omega) hql
                have hset := dfN_set (eq := EqA) (show 0 < k + q by omega) hql
                have hassoc : k + (q + 1) = k + q + 1 := rfl
                rw [hassoc] at hKq
                cases hG : EqA l[k + q] l[k + q - 1] with
                | true =>
                  rw [hG] at cF hnx
                  have hnx : kpN EqA l (k + q + 1) = kpN EqA l (k + q) := hnx
                  have hdf : dfN EqA l (k + q + 1) = dfN EqA l (k + q) := by unfold dfN; rw [hnx]
                  rw [hnx, hdf] at hKq
                  repeat (first | refine tr_seq_k fun _ _ => ?_ | (refine tr_region ?_; simp only [go_sem, List.getElem?_toArray, reduceCtorEq, Nat.reduceEqDiff, Nat.reduceLT, ↓reduceIte, q2]) | refine k_of (by assumption) ?_)
                  refine tr_cond rfl (fun ht => ?_) (fun hf => ?_)
                  · repeat (first | refine tr_seq_k fun _ _ => ?_ | (refine tr_draw (id := 11) follows 10000 [10] [0, 1, 2, 3, 4, 5, 6, 7, 8, 9, 10, 11] (by kernel_rfl) ?_; simp only [go_sem, List.getElem?_toArray, reduceCtorEq, Nat.reduceEqDiff, Nat.reduceLT, ↓reduceIte, wp2, i1, i2, d3, d4, fitLA b1, fitLA b2]) | (refine call_of (cF) ?_ ?_; (first | rfl | simp only [go_sem, reduceCtorEq, Nat.reduceEqDiff, Nat.reduceLT, Nat.reduceLeDiff, Nat.reduceAdd, Nat.reduceMul, Nat.reduceSub, Nat.reduceBEq, ↓reduceIte, wp2, i1, i2, d3, d4, fitLA b1, fitLA b2, shut_col]); simp only [go_sem, reduceCtorEq, Nat.reduceEqDiff, Nat.reduceLT, ↓reduceIte, Bool.true_or]) | refine k_of (by assumption) ?_ | refine tr_block ?_ | (refine tr_skip ?_; try simp only [ex_seq]))
                    refine tr_cond rfl (fun ht => ?_) (fun hf => ?_)
                    · cases ht
                    · repeat (first | (refine tr_region ?_; simp only [go_sem, reduceCtorEq, Nat.reduceEqDiff, Nat.reduceLT, ↓reduceIte, ws2]) | refine k_of (by assumption) ?_ | (refine tr_skip ?_; try simp only [ex_seq, ex_block]))
                      exact hKq _ _ ⟨by omega, hql, by omega⟩ ⟨⟨rfl, rfl, rfl, rfl, rfl, trivial⟩, Keep.refl _, rfl, by simp only [lowB, lows_blC]; rfl, Nat.le_refl _, Nat.le_refl _⟩ (by omega)
                  · cases hf
                | false =>
                  rw [hG] at cF hnx
                  have hnx : kpN EqA l (k + q + 1) = kpN EqA l (k + q) ++ [l[k + q]] := hnx
                  have hle : (kpN EqA l (k + q + 1)).length = (kpN EqA l (k + q)).length + 1 := by rw [hnx, List.length_append]; rfl
                  have st := setLA b3 l[k + q]
                  rw [hset hG] at st
                  rw [hle] at hKq
                  repeat (first | refine tr_seq_k fun _ _ => ?_ | (refine tr_region ?_; simp only [go_sem, List.getElem?_toArray, reduceCtorEq, Nat.reduceEqDiff, Nat.reduceLT, ↓reduceIte, q2]) | refine k_of (by assumption) ?_)
                  refine tr_cond rfl (fun ht => ?_) (fun hf => ?_)
                  · repeat (first | refine tr_seq_k fun _ _ => ?_ | (refine tr_draw (id := 11) follows 10000 [10] [0, 1, 2, 3, 4, 5, 6, 7, 8, 9, 10, 11] (by kernel_rfl) ?_; simp only [go_sem, List.getElem?_toArray, reduceCtorEq, Nat.reduceEqDiff, Nat.reduceLT, ↓reduceIte, wp2, i1, i2, d3, d4, fitLA b1, fitLA b2]) | (refine call_of (cF) ?_ ?_; (first | rfl | simp only [go_sem, reduceCtorEq, Nat.reduceEqDiff, Nat.reduceLT, Nat.reduceLeDiff, Nat.reduceAdd, Nat.reduceMul, Nat.reduceSub, Nat.reduceBEq, ↓reduceIte, wp2, i1, i2, d3, d4, fitLA b1, fitLA b2, shut_col]); simp only [go_sem, reduceCtorEq, Nat.reduceEqDiff, Nat.reduceLT, ↓reduceIte, Bool.true_or]) | refine k_of (by assumption) ?_ | refine tr_block ?_ | (refine tr_skip ?_; try simp only [ex_seq]))
                    refine tr_cond rfl (fun ht => ?_) (fun hf => ?_)
                    · repeat (first | refine tr_seq_k fun _ _ => ?_ | (refine tr_region ?_; simp only [go_sem, reduceCtorEq, Nat.reduceEqDiff, Nat.reduceLT, Nat.reduceAdd, ↓reduceIte, i1, d3, fitLA b1, ixLA b3', fitLA b3, st, ws2, wk]) | refine k_of (by assumption) ?_)
                      exact hKq _ _ ⟨by omega, hql, by omega⟩ ⟨⟨rfl, rfl, rfl, rfl, rfl, trivial⟩, Keep.refl _, rfl, by simp only [lowB, lows_blC]; rfl, Nat.le_refl _, Nat.le_refl _⟩ (by omega)
                    · cases hf
                  · cases hf
              · have q2 : decide ((q : Int) < ((l.length - k : Nat) : Int)) = false := decide_eq_false (by omega)
                have hqe : k + q = l.length := by omega
                rw [hqe] at hkl2 ⊢
                have hle := kpN_len EqA l l.length
                have hdl := dfN_len EqA l (Nat.le_refl l.length)
                have s1 := slL_from (P := Tryz.prog) (size := 11) Tryz.underlying34 sz33 (b := 0) (lo := 0) hle
                rw [Nat.zero_add] at s1
                have s2 := slL_to (P := Tryz.prog) (size := 11) Tryz.underlying34 sz33 (b := 0) (lo := 0) hle
                have cl := clear_blC (P := Tryz.prog) (enc := atC) (size := 11) (fun _ => rfl) (by decide) Tryz.underlying34 zeA13 (l := dfN EqA l l.length) (i := (kpN EqA l l.length).length) (by omega) (hw := hw)
                rw [hdl, show (dfN EqA l l.length).take (kpN EqA l l.length).length = kpN EqA l l.length from List.take_left' rfl] at cl
                repeat (first | refine tr_seq_k fun _ _ => ?_ | (refine tr_region ?_; simp only [go_sem, List.getElem?_toArray, reduceCtorEq, Nat.reduceEqDiff, Nat.reduceLT, ↓reduceIte, q2]) | refine k_of (by assumption) ?_)
                refine tr_cond rfl (fun ht => ?_) (fun hf => ?_)
                · cases ht
                · repeat (first | refine tr_seq_k fun _ _ => ?_ | (refine tr_region ?_; simp only [go_sem, reduceCtorEq, Nat.reduceEqDiff, Nat.reduceLT, ↓reduceIte, s1, s2, cl]) | refine k_of (by assumption) ?_ | (refine tr_exit ?_; try simp only [ex_seq_exit, ex_block_exit, ex_seq, ↓reduceIte]) | (refine tr_ret ?_; try simp only [ex_seq_ret, ex_block_ret]))
                  refine (hQ _ _ [.lsl 0 0 (kpN EqA l l.length).length 11] ?_ rfl rfl).2 <;> simp only [go_sem, reduceCtorEq, Nat.reduceEqDiff, ↓reduceIte, Tryz.f60]
            · cases hf
          · cases hf
      · exact absurd (fun i hi h0 => hno i hi h0 (by omega)) hall
end Go.Proofs.YtinbfakpjnnagaaGreatDoor
namespace Go.Proofs.YtinbfakpjnnagaaGreatDoor
open Go.RowKit Go.Vs Go.Vs.Ab Go.Vs.Sm
set_option maxRecDepth 100000
set_option maxHeartbeats 4000000
/-! ### nothing to sort -/
abbrev slZ : AV := .c (.sl true 0 [])
theorem ins0_does : Does Tryz.prog 92 [slZ, iA 0, iA 0, cmpF] (fun m => (.tup [], m)) := by
  have w1 : IntKind.i64.wrap ((0 : Int) + 1) = 1 := by decide
  have w2 : IntKind.i64.wrap 1 = 1 := by decide
  have q1 : decide ((1 : Int) < 0) = false := by decide
  refine does_of' Tryz.func92 rfl (by kernel_rfl) rfl Tryz.ntmps92 rfl rfl fun Q hQ => ?_
  repeat (first | refine tr_seq_k fun _ _ => ?_ | (refine tr_region ?_; simp only [go_sem, reduceCtorEq, Nat.reduceEqDiff, Nat.reduceLT, Nat.reduceAdd, ↓reduceIte, w1]) | refine k_of (by assumption) ?_ | refine tr_block ?_)
  refine tr_loop_k (σ := Unit) (fun _ => [(2, iA 0), (8, iA 1)]) (fun _ => ⟨[], []⟩) (fun _ => True) (fun _ => 0) () trivial ⟨rfl, rfl, trivial⟩ rfl ?_
  rintro _ _ K hK
  repeat (first | refine tr_seq_k fun _ _ => ?_ | (refine tr_region ?_; simp only [go_sem, Nat.reduceEqDiff, Nat.reduceLT, ↓reduceIte, q1]) | refine k_of (by assumption) ?_)
  refine tr_cond rfl (fun ht => ?_) (fun hf => ?_)
  · cases ht
  · repeat ((refine tr_exit ?_; try simp only [ex_seq_exit, ex_block_exit, ↓reduceIte]))
    exact (hQ _ _ [] rfl (fun m => rfl)).1
theorem stab0_does : Does Tryz.prog 79 [slZ, iA 0, cmpF] (fun m => (.tup [], m)) := by
  have c1 := ins0_does
  have q1 : decide ((20 : Int) ≤ 0) = false := by decide
  have q2 : decide ((20 : Int) < 0) = false := by decide
  refine does_of' Tryz.func79 rfl (by kernel_rfl) rfl Tryz.ntmps79 rfl rfl fun Q hQ => ?_
  repeat (first | refine tr_seq_k fun _ _ => ?_ | (refine tr_region ?_; simp only [go_sem, reduceCtorEq, Nat.reduceEqDiff, Nat.reduceLT, Nat.reduceAdd, ↓reduceIte]) | refine k_of (by assumption) ?_ | refine tr_block ?_)
  refine tr_loop_k (σ := Unit) (fun _ => [(0, slZ), (1, iA 0), (2, cmpF), (6, iA 20), (7, iA 0), (8, iA 20)]) (fun _ => ⟨[], []⟩) (fun _ => True) (fun _ => 0) () trivial ⟨rfl, rfl, rfl, rfl, rfl, rfl, trivial⟩ rfl ?_
  rintro _ _ K hK
  repeat (first | refine tr_seq_k fun _ _ => ?_ | (refine tr_region ?_; simp only [go_sem, reduceCtorEq, Nat.reduceEqDiff, Nat.reduceLT, ↓reduceIte, q1]) | refine k_of (by assumption) ?_)
  refine tr_cond rfl (fun ht => ?_) (fun hf => ?_)
  · cases ht
  · repeat (first | refine tr_seq_k fun _ _ => ?_ | (refine tr_region ?_; simp only [go_sem, reduceCtorEq, Nat.reduceEqDiff, Nat.reduceLT, ↓reduceIte]) | (refine call_of (c1) ?_ ?_; (first | rfl | simp only [go_sem, reduceCtorEq, Nat.reduceEqDiff, Nat.reduceLT, Nat.reduceLeDiff, Nat.reduceAdd, Nat.reduceMul, Nat.reduceSub, Nat.reduceBEq, ↓reduceIte, shut_col]); simp only [go_sem]) | refine k_of (by assumption) ?_ | refine tr_block ?_ | (refine tr_exit ?_; try simp only [ex_seq_exit, ex_block_exit, ex_seq, ↓reduceIte]))
    refine tr_loop_k (σ := Unit) (fun _ => [(1, iA 0), (6, iA 20)]) (fun _ => ⟨[], []⟩) (fun _ => True) (fun _ => 0) () trivial ⟨rfl, rfl, trivial⟩ rfl ?_
    rintro _ _ K hK
    repeat (first | refine tr_seq_k fun _ _ => ?_ | (refine tr_region ?_; simp only [go_sem, Nat.reduceEqDiff, Nat.reduceLT, ↓reduceIte, q2]) | refine k_of (by assumption) ?_)
    refine tr_cond rfl (fun ht => ?_) (fun hf => ?_)
    · cases ht
    · repeat ((refine tr_exit ?_; try simp only [ex_seq_exit, ex_block_exit, ↓reduceIte]))
      exact (hQ _ _ [] rfl (fun m => rfl)).1
theorem sort0_does : Does Tryz.prog 58 [slZ, cmpF] (fun m => (.tup [], m)) := by
  have c1 := stab0_does
  refine does_of' Tryz.func58 rfl (by kernel_rfl) rfl Tryz.ntmps58 rfl rfl fun Q hQ => ?_
  repeat (first | (refine tr_region ?_; simp only [go_sem, List.getElem?_toArray, reduceCtorEq, Nat.reduceEqDiff, Nat.reduceLT, ↓reduceIte]) | (refine call_of (c1) ?_ ?_; (first | rfl | simp only [go_sem, reduceCtorEq, Nat.reduceEqDiff, Nat.reduceLT, Nat.reduceLeDiff, Nat.reduceAdd, Nat.reduceMul, Nat.reduceSub, Nat.reduceBEq, ↓reduceIte, shut_col]); simp only [go_sem]))
  exact (hQ _ _ [] rfl (fun m => rfl)).1
theorem compact0_does : Does Tryz.prog 60 [slZ, eqF] (fun m => (slZ, m)) := by
  have q1 : decide (((0 : Nat) : Int) < 2) = true := by decide
  refine does_of' Tryz.func60 rfl (by kernel_rfl) rfl Tryz.ntmps60 rfl rfl fun Q hQ => ?_
  repeat (first | refine tr_seq_k fun _ _ => ?_ | (refine tr_region ?_; simp only [go_sem, List.getElem?_toArray, reduceCtorEq, Nat.reduceEqDiff, Nat.reduceLT, ↓reduceIte, q1]) | refine k_of (by assumption) ?_)
  refine tr_cond rfl (fun ht => ?_) (fun hf => ?_)
  · repeat (first | refine tr_seq_k fun _ _ => ?_ | (refine tr_region ?_; simp only [go_sem, reduceCtorEq, Nat.reduceEqDiff, Nat.reduceLT, ↓reduceIte]) | refine k_of (by assumption) ?_ | (refine tr_ret ?_; try simp only [ex_seq_ret]))
    refine (hQ _ _ [slZ] ?_ (fun m => rfl)).2 <;> simp only [go_sem, reduceCtorEq, Nat.reduceEqDiff, ↓reduceIte, Tryz.f60]
  · cases hf
/-! ### order.Sorted -/
def srtA (l : List Atm) : List Atm := cm ltA (srt ltA l)
theorem sorted_does (l : List Atm) (ex : Bool) (hl : l.length ≤ 1000000) (hsz : ∀ x ∈ l, AtSz x) : Does Tryz.prog 34 [.c (slC atC ex l)] (fun m => (.c (slC atC l.isEmpty (srtA l)), m)) := by
  by_cases hne : l = []
  · subst hne
    have c1 : Does Tryz.prog 56 [.c (slC atC ex ([] : List Atm))] (fun m => (slZ, { m with hw := m.hw ++ [] })) := cloneA_own [] ex (by simp)
    have c2 := sort0_does
    have c3 := compact0_does
    refine does_of' Tryz.func34 rfl (by kernel_rfl) rfl Tryz.ntmps34 rfl rfl fun Q hQ => ?_
    repeat (first | refine tr_seq_k fun _ _ => ?_ | (refine tr_region ?_; simp only [go_sem, reduceCtorEq, Nat.reduceEqDiff, Nat.reduceLT, ↓reduceIte, List.append_nil]) | (refine call_of (c1) ?_ ?_; (first | rfl | simp only [go_sem, reduceCtorEq, Nat.reduceEqDiff, Nat.reduceLT, Nat.reduceLeDiff, Nat.reduceAdd, Nat.reduceMul, Nat.reduceSub, Nat.reduceBEq, ↓reduceIte, List.append_nil, shut_col]); simp only [go_sem, List.append_nil]) | (refine call_of (c2) ?_ ?_; (first | rfl | simp only [go_sem, reduceCtorEq, Nat.reduceEqDiff, Nat.reduceLT, Nat.reduceLeDiff, Nat.reduceAdd, Nat.reduceMul, Nat.reduceSub, Nat.reduceBEq, ↓reduceIte, List.append_nil, shut_col]); simp only [go_sem]) | (refine call_of (c3) ?_ ?_; (first | rfl | simp only [go_sem, reduceCtorEq, Nat.reduceEqDiff, Nat.reduceLT, Nat.reduceLeDiff, Nat.reduceAdd, Nat.reduceMul, Nat.reduceSub, Nat.reduceBEq, ↓reduceIte, List.append_nil, shut_col]); simp only [go_sem]) | refine k_of (by assumption) ?_ | (refine tr_ret ?_; try simp only [ex_seq_ret, ex_block_ret]))
    refine (hQ _ _ [slZ] ?_ (fun m => rfl)).2 <;> simp only [go_sem, reduceCtorEq, ↓reduceIte, Tryz.f34]
  · have c1 := cloneA_own l ex hl
    have e : freshA atC 33 11 l = fun m => (.own m.hw.length l.length (l.flatMap atC), { m with hw := m.hw ++ [⟨l.length, 33, 11⟩] }) := by
      funext m
      unfold freshA
      rw [colA_ne atC _ hne, colH_ne _ _ hne]
    rw [e] at c1
    clear e
    have c2 : Gives Tryz.prog 56 [.c (slC atC ex l)] ⟨[], []⟩ (.lsl 0 0 l.length 11) ⟨[⟨false, blC atC l⟩], []⟩ := c1.lsl (args := [.c (slC atC ex l)]) rfl (k := 0) rfl (by rfl) (vals_flat vals_atC l) ⟨[], []⟩
    have c3 := sort_gives l [] hl hsz
    have hn := srt_len ltA l.length l rfl
    have hm : ∀ x ∈ srt ltA l, AtSz x := fun x hx => hsz x (srt_mem hx)
    obtain ⟨R, c4⟩ := compact_gives (srt ltA l) [] (by omega) hm
    have c4 := c4.freeze (ds := (kpN EqA (srt ltA l) (srt ltA l).length ++ R).flatMap atC) rfl
    rw [Nat.zero_mul, List.drop_zero, take_flat (enc := atC) (size := 11) (fun _ => rfl), List.take_left' rfl, show kpN EqA (srt ltA l) (srt ltA l).length = srtA l from kpN_cm (totK txA) _, hn] at c4
    have hie : l.isEmpty = false := by cases l with
      | nil => exact absurd rfl hne
      | cons => rfl
    rw [hie]
    clear c1
    refine does_of' Tryz.func34 rfl (by kernel_rfl) rfl Tryz.ntmps34 rfl rfl fun Q hQ => ?_
    repeat (first | refine tr_seq_k fun _ _ => ?_ | (refine tr_region ?_; simp only [go_sem, reduceCtorEq, Nat.reduceEqDiff, Nat.reduceLT, ↓reduceIte]) | (refine call_gives (c2) ?_; (try dsimp only); (try simp only [go_sem, reduceCtorEq, Nat.reduceEqDiff, Nat.reduceLT, Nat.reduceLeDiff, Nat.reduceAdd, Nat.reduceMul, Nat.reduceSub, Nat.reduceBEq, ↓reduceIte])) | (refine call_givesW (c3) ?_; (try dsimp only); (try simp only [go_sem, reduceCtorEq, Nat.reduceEqDiff, Nat.reduceLT, Nat.reduceLeDiff, Nat.reduceAdd, Nat.reduceMul, Nat.reduceSub, Nat.reduceBEq, ↓reduceIte])) | (refine call_givesW (c4) ?_; (try dsimp only); (try simp only [go_sem])) | refine k_of (by assumption) ?_ | (refine tr_ret ?_; try simp only [ex_seq_ret, ex_block_ret]))
    refine (hQ _ _ [.c (slC atC false (srtA l))] ?_ (fun m => rfl)).2 <;> simp only [go_sem, reduceCtorEq, ↓reduceIte, Tryz.f34]
end Go.Proofs.YtinbfakpjnnagaaGreatDoor
namespace Go.Proofs.YtinbfakpjnnagaaGreatDoor
open Go.RowKit Go.Vs Go.Vs.Ab
set_option maxRecDepth 100000
set_option maxHeartbeats 4000000
def fmStep (acc : List Atm) (x : Atm) : List Atm := if formA x ∈ acc then acc else acc ++ [formA x]
def fdist (l : List Atm) : List Atm := l.foldl fmStep []
theorem fdist_next {l : List Atm} {k : Nat} (h : k < l.length) : fdist (l.take (k + 1)) = fmStep (fdist (l.take k)) l[k] := by
  unfold fdist
  rw [List.take_succ_eq_append_getElem h, List.foldl_append]
  rfl
theorem fdist_len : ∀ (l : List Atm) (acc : List Atm), (l.foldl fmStep acc).length ≤ acc.length + l.length
  | [], acc => by simp
  | x :: l, acc => by
    have := fdist_len l (fmStep acc x)
    have h2 : (fmStep acc x).length ≤ acc.length + 1 := by
      unfold fmStep
      split <;> simp
    rw [List.foldl_cons, List.length_cons]
    omega
theorem fdist_le (l : List Atm) : (fdist l).length ≤ l.length := by
  have := fdist_len l []
  simpa [fdist] using this
theorem fdist_mem : ∀ (l acc : List Atm) {x : Atm}, x ∈ l.foldl fmStep acc ↔ x ∈ acc ∨ ∃ a ∈ l, x = formA a
  | [], acc, x => by simp
  | a :: l, acc, x => by
    rw [List.foldl_cons, fdist_mem l]
    unfold fmStep
    split
    · rename_i h
      constructor
      · rintro (h1 | ⟨b, h1, h2⟩)
        · exact Or.inl h1
        · exact Or.inr ⟨b, List.mem_cons_of_mem _ h1, h2⟩
      · rintro (h1 | ⟨b, h1, h2⟩)
        · exact Or.inl h1
        · rcases List.mem_cons.1 h1 with rfl | h1
          · exact Or.inl (h2 ▸ h)
          · exact Or.inr ⟨b, h1, h2⟩
    · constructor
      · rintro (h1 | ⟨b, h1, h2⟩)
        · rcases List.mem_append.1 h1 with h1 | h1
          · exact Or.inl h1
          · rw [List.mem_singleton] at h1
            exact Or.inr ⟨a, List.mem_cons_self, h1⟩
        · exact Or.inr ⟨b, List.mem_cons_of_mem _ h1, h2⟩
      · rintro (h1 | ⟨b, h1, h2⟩)
        · exact Or.inl (List.mem_append_left _ h1)
        · rcases List.mem_cons.1 h1 with rfl | h1
          · exact Or.inl (List.mem_append_right _ (List.mem_singleton.2 h2))
          · exact Or.inr ⟨b, h1, h2⟩
theorem mem_fdist {l : List Atm} {x : Atm} : x ∈ fdist l ↔ ∃ a ∈ l, x = formA a := by
  unfold fdist
  rw [fdist_mem]
  simp
theorem setArg_arg (b : Atm) {k j : Nat} (hk : k < 4) (hj : j < 4) (t : Tm) : (Atm.setArg b k t).arg j = if j = k then t else b.arg j := by
  obtain rfl | rfl | rfl | rfl : k = 0 ∨ k = 1 ∨ k = 2 ∨ k = 3 := by omega
  all_goals obtain rfl | rfl | rfl | rfl : j = 0 ∨ j = 1 ∨ j = 2 ∨ j = 3 := by omega
  all_goals rfl
theorem formK_arg (a : Atm) : ∀ k, k ≤ 4 → ∀ j, j < 4 → (formK a k).arg j = if j < k then vt j else ⟨false, ⟨#[]⟩⟩
  | 0, _, j, hj => by
    rw [if_neg (Nat.not_lt_zero j)]
    obtain rfl | rfl | rfl | rfl : j = 0 ∨ j = 1 ∨ j = 2 ∨ j = 3 := by omega
    all_goals rfl
  | k + 1, hk, j, hj => by
    show (Atm.setArg (formK a k) k (vt k)).arg j = _
    rw [setArg_arg _ (by omega) hj, formK_arg a k (by omega) j hj]
    by_cases h : j = k
    · subst h
      rw [if_pos rfl, if_pos (Nat.lt_succ_self j)]
    · rw [if_neg h]
      by_cases h2 : j < k
      · rw [if_pos h2, if_pos (by omega)]
      · rw [if_neg h2, if_neg (by omega)]
theorem formK_rest (a : Atm) : ∀ k, k ≤ 4 → (formK a k).says = a.says ∧ (formK a k).pred = a.pred ∧ (formK a k).n = a.n
  | 0, _ => ⟨rfl, rfl, rfl⟩
  | k + 1, hk => by
    obtain ⟨h1, h2, h3⟩ := formK_rest a k (by omega)
    rw [← h1, ← h2, ← h3]
    have : k = 0 ∨ k = 1 ∨ k = 2 ∨ k = 3 := by omega
    show (Atm.setArg (formK a k) k (vt k)).says = _ ∧ (Atm.setArg (formK a k) k (vt k)).pred = _ ∧ (Atm.setArg (formK a k) k (vt k)).n = _
    generalize formK a k = b
    obtain rfl | rfl | rfl | rfl := this
    all_goals exact ⟨rfl, rfl, rfl⟩
theorem arg_over {a : Atm} {k : Nat} (h : 4 ≤ k) : a.arg k = a.arg 3 := by
  match k, h with
  | k + 4, _ => rfl
theorem formA_sz {a : Atm} (h : AtSz a) : AtSz (formA a) := by
  obtain ⟨h1, h2, h3⟩ := formK_rest a a.count a.count_le
  have h4 : ∀ k, k < 4 → ((formA a).arg k).name.size ≤ 2 := fun k hk => by
    rw [show (formA a).arg k = _ from formK_arg a a.count a.count_le k hk]
    split
    · exact Nat.le_refl _
    · exact Nat.zero_le _
  refine ⟨by rw [show (formA a).says = a.says from h1]; exact h.1, by rw [show (formA a).pred = a.pred from h2]; exact h.2.1, fun k => ?_⟩
  by_cases hk : k < 4
  · exact Nat.le_trans (h4 k hk) (by decide)
  · rw [arg_over (by omega)]
    exact Nat.le_trans (h4 3 (by decide)) (by decide)
theorem atomsF_sz {p : Pol} (h : Lt13 p) : ∀ a ∈ atomsF p, AtSz a := fun a ha => by
  unfold atomsF at ha
  obtain ⟨c, hc, ha⟩ := List.mem_flatMap.1 ha
  obtain ⟨q1, q2, _⟩ := cls_sz h c hc
  rcases List.mem_cons.1 ha with rfl | ha
  · exact q1
  · exact q2 a ha
theorem atomsF_len {p : Pol} (h : Lt13 p) : (atomsF p).length ≤ 1540 := by
  have h1 := atomsK_len (l := clausesF p) (fun c hc => (cls_sz h c hc).2.2) (clausesF p).length (Nat.le_refl _)
  have h2 : (clausesF p).length ≤ 140 := by
    have := clauses_len p
    have := h.rn
    have := h.gn
    omega
  unfold atomsK at h1
  rw [List.take_length] at h1
  show ((clausesF p).flatMap _).length ≤ _
  omega
def formsF (p : Pol) : List Atm := srtA (fdist (atomsF p))
theorem forms_does {p : Pol} (h : Lt13 p) : Does Tryz.prog 16 [poA p] (fun m => (.c (slC atC (atomsF p).isEmpty (formsF p)), m)) := by
  have cC := (atoms_does h).shut
  have hsz := atomsF_sz h
  have hll := atomsF_len h
  unfold formsF
  generalize atomsF p = L at *
  refine does_of' Tryz.func16 rfl (by kernel_rfl) rfl Tryz.ntmps16 rfl rfl fun Q hQ => ?_
  repeat (first | refine tr_seq_k fun _ _ => ?_ | (refine tr_region ?_; simp only [go_sem, List.getElem?_toArray, reduceCtorEq, Nat.reduceEqDiff, Nat.reduceLT, Nat.reduceLeDiff, Nat.reduceAdd, ↓reduceIte]) | (refine call_of (cC) ?_ ?_; (first | rfl | simp only [go_sem, reduceCtorEq, Nat.reduceEqDiff, Nat.reduceLT, Nat.reduceLeDiff, Nat.reduceAdd, Nat.reduceMul, Nat.reduceSub, Nat.reduceBEq, ↓reduceIte, shut_col]); simp only [go_sem, reduceCtorEq, Nat.reduceEqDiff, Nat.reduceLT, ↓reduceIte]) | refine k_of (by assumption) ?_ | refine tr_block ?_)
  refine tr_loop_k (σ := Nat) (fun k => [(3, colA atC 0 (fdist (L.take k))), (4, .mapp 1), (12, .c (slC atC L.isEmpty L)), (13, iA L.length), (14, iA k)]) (fun k => ⟨[⟨false, [.c (slC stC p.e1 p.prin), .c (slC prC p.e2 p.preds), .c (slC clC p.e3 p.clears), iA p.quota, iA p.budget, .c (slC ruC p.e4 p.rules), .c (slC grC p.e5 p.grants)]⟩, ⟨false, [.ent (atEs (fdist (L.take k)))]⟩], colH 33 11 (fdist (L.take k))⟩)
    (fun k => k ≤ L.length) (fun k => L.length - k) 0 (Nat.zero_le _) ⟨rfl, rfl, rfl, rfl, rfl, trivial⟩ rfl ?_
  rintro k hk K hK
  repeat (first | refine tr_seq_k fun _ _ => ?_ | (refine tr_region ?_; simp only [go_sem, Nat.reduceEqDiff, Nat.reduceLT, ↓reduceIte]) | refine k_of (by assumption) ?_)
  refine tr_cond rfl (fun ht => ?_) (fun hf => ?_)
  · have hlt : k < L.length := by simpa using ht
    have ws := wrap_succ (show k ≤ 1000000000 by omega)
    have ix := idxA12 (ex := L.isEmpty) hlt
    have hnx := fdist_next hlt
    have hdl := fdist_le (L.take k)
    rw [List.length_take] at hdl
    generalize L[k] = x at *
    have cF := form_does x
    by_cases hm : formA x ∈ fdist (L.take k)
    · obtain ⟨j, lk⟩ := at_some hm (atEs (fdist (L.take k))).isEmpty
      rw [fmStep, if_pos hm] at hnx
      repeat (first | refine tr_seq_k fun _ _ => ?_ | (refine tr_region ?_; simp only [go_sem, Nat.reduceEqDiff, Nat.reduceLT, Nat.reduceLeDiff, Nat.reduceAdd, ↓reduceIte, ix, atC, lk, avU]) | (refine call_of (cF) ?_ ?_; (first | rfl | simp only [go_sem, reduceCtorEq, Nat.reduceEqDiff, Nat.reduceLT, Nat.reduceLeDiff, Nat.reduceAdd, Nat.reduceMul, Nat.reduceSub, Nat.reduceBEq, ↓reduceIte, ix, atC, lk, zaU, avU, shut_col]); simp only [go_sem, Nat.reduceLeDiff, Nat.reduceAdd, ↓reduceIte, atC]) | refine k_of (by assumption) ?_ | refine tr_block ?_ | (refine tr_skip ?_; try simp only [ex_seq]))
      refine tr_cond rfl (fun ht => ?_) (fun hf => ?_)
      · cases ht
      · repeat (first | (refine tr_region ?_; simp only [go_sem, Nat.reduceEqDiff, Nat.reduceLT, ↓reduceIte, ws]) | refine k_of (by assumption) ?_ | (refine tr_skip ?_; try simp only [ex_seq, ex_block]))
        exact hK (k + 1) _ _ hlt ⟨⟨by rw [hnx]; rfl, rfl, rfl, rfl, rfl, trivial⟩, by rw [hnx]; exact Keep.of (eh := [_, _, _]) (ew := []) rfl (List.append_nil _).symm, by simp only [lowF, low_col]; rfl, rfl, Nat.le_refl _, Nat.zero_le _⟩ (by omega)
    · have lk := at_none hm
      have pu := at_put hm
      rw [fmStep, if_neg hm] at hnx
      have ap := fun hp => appA hp (fdist (L.take k)) (formA x) (by omega)
      rw [← hnx] at ap pu
      have b1 := build1A (formA x)
      repeat (first | refine tr_seq_k fun _ _ => ?_ | (refine tr_region ?_; simp only [go_sem, Nat.reduceEqDiff, Nat.reduceLT, Nat.reduceLeDiff, Nat.reduceAdd, ↓reduceIte, ix, atC, lk, zaU]) | (refine call_of (cF) ?_ ?_; (first | rfl | simp only [go_sem, reduceCtorEq, Nat.reduceEqDiff, Nat.reduceLT, Nat.reduceLeDiff, Nat.reduceAdd, Nat.reduceMul, Nat.reduceSub, Nat.reduceBEq, ↓reduceIte, ix, atC, lk, zaU, avU, shut_col]); simp only [go_sem, Nat.reduceLeDiff, Nat.reduceAdd, ↓reduceIte, atC]) | refine k_of (by assumption) ?_ | refine tr_block ?_ | (refine tr_skip ?_; try simp only [ex_seq]))
      refine tr_cond rfl (fun ht => ?_) (fun hf => ?_)
      · repeat (first | refine tr_seq_k fun _ _ => ?_ | (refine tr_region ?_; simp only [go_sem, Nat.reduceEqDiff, Nat.reduceLT, Nat.reduceLeDiff, Nat.reduceAdd, ↓reduceIte, pu, b1, one_max, ap, ws]) | refine k_of (by assumption) ?_)
        exact hK (k + 1) _ _ hlt ⟨⟨rfl, rfl, rfl, rfl, rfl, trivial⟩, Keep.of (eh := [_, _, _]) (ew := []) rfl (List.append_nil _).symm, by simp only [lowF, low_col]; rfl, rfl, Nat.le_refl _, Nat.zero_le _⟩ (by omega)
      · cases hf
  · have hkl : k = L.length := by
      have := of_decide_eq_false hf
      omega
    subst hkl
    rw [List.take_length]
    by_cases h0 : fdist L = []
    · have hL : L = [] := by
        cases L with
        | nil => rfl
        | cons a l =>
          have : formA a ∈ fdist (a :: l) := mem_fdist.2 ⟨a, List.mem_cons_self, rfl⟩
          rw [h0] at this
          simp at this
      subst hL
      have cS := sorted_does [] true (by simp) (by simp)
      repeat (first | refine tr_seq_k fun _ _ => ?_ | (refine tr_region ?_; simp only [go_sem, Nat.reduceEqDiff, Nat.reduceLT, ↓reduceIte, h0]) | (refine call_of (cS) ?_ ?_; (first | rfl | simp only [go_sem, reduceCtorEq, Nat.reduceEqDiff, Nat.reduceLT, Nat.reduceLeDiff, Nat.reduceAdd, Nat.reduceMul, Nat.reduceSub, Nat.reduceBEq, ↓reduceIte, h0, shut_col]); simp only [go_sem]) | refine k_of (by assumption) ?_ | (refine tr_exit ?_; try simp only [ex_seq_exit, ex_block_exit, ex_seq, ↓reduceIte]) | (refine tr_ret ?_; try simp only [ex_seq_ret, ex_block_ret]))
      refine (hQ _ _ [.c (slC atC true (srtA []))] ?_ (fun m => rfl)).2 <;> simp only [go_sem, Nat.reduceEqDiff, ↓reduceIte, Tryz.f16]
    · have hlen := fdist_le L
      have cS := sorted_does (fdist L) false (by omega) (fun a ha => by
        obtain ⟨b, hb, rfl⟩ := mem_fdist.1 ha
        exact formA_sz (hsz b hb))
      have e1 : (fdist L).isEmpty = false := by
        rw [List.isEmpty_eq_false_iff]; exact h0
      have e2 : L.isEmpty = false := by
        rw [List.isEmpty_eq_false_iff]
        rintro rfl
        exact h0 rfl
      rw [e1] at cS
      rw [e2]
      rw [colA_ne atC 0 h0, colH_ne _ _ h0] at *
      repeat (first | refine tr_seq_k fun _ _ => ?_ | (refine tr_region ?_; simp only [go_sem, Nat.reduceEqDiff, Nat.reduceLT, ↓reduceIte]) | (refine call_of (cS) ?_ ?_; (first | rfl | simp only [go_sem, reduceCtorEq, Nat.reduceEqDiff, Nat.reduceLT, Nat.reduceLeDiff, Nat.reduceAdd, Nat.reduceMul, Nat.reduceSub, Nat.reduceBEq, ↓reduceIte, shut_col]); simp only [go_sem]) | refine k_of (by assumption) ?_ | (refine tr_exit ?_; try simp only [ex_seq_exit, ex_block_exit, ex_seq, ↓reduceIte]) | (refine tr_ret ?_; try simp only [ex_seq_ret, ex_block_ret]))
      refine (hQ _ _ [.c (slC atC false (srtA (fdist L)))] ?_ (fun m => ?_)).2 <;> simp only [go_sem, Nat.reduceEqDiff, ↓reduceIte, Tryz.f16,]
      rw [e2]
end Go.Proofs.YtinbfakpjnnagaaGreatDoor
namespace Go.Proofs.YtinbfakpjnnagaaGreatDoor
open Go.RowKit Go.Vs Go.Vs.Ab
set_option maxRecDepth 100000
set_option maxHeartbeats 4000000
theorem consts3_does (a : Atm) : Does Tryz.prog 39 [atA a] (fun m => (.c (slC stC (pnames a false).isEmpty (pnames a false)), m)) := by
  have c1 := (names13_does a).shut
  refine does_of' Tryz.func39 rfl (by kernel_rfl) rfl Tryz.ntmps39 rfl rfl fun Q hQ => ?_
  repeat (first | refine tr_seq_k fun _ _ => ?_ | (refine tr_region ?_; simp only [go_sem, reduceCtorEq, Nat.reduceEqDiff, Nat.reduceLT, Nat.reduceLeDiff, Nat.reduceAdd, ↓reduceIte]) | (refine call_of (c1) ?_ ?_; (first | rfl | simp only [go_sem, reduceCtorEq, Nat.reduceEqDiff, Nat.reduceLT, Nat.reduceLeDiff, Nat.reduceAdd, Nat.reduceMul, Nat.reduceSub, Nat.reduceBEq, ↓reduceIte, shut_col]); simp only [go_sem]) | refine k_of (by assumption) ?_ | (refine tr_ret ?_; try simp only [ex_seq_ret, ex_block_ret]))
  refine (hQ _ _ [.c (slC stC (pnames a false).isEmpty (pnames a false))] ?_ (fun m => rfl)).2 <;> simp only [go_sem, reduceCtorEq, Nat.reduceEqDiff, ↓reduceIte, Tryz.f39]
  rfl
/-! ### the constants met -/
def csK (V : List ByteArray) (acc : List ByteArray) (k : Nat) : List ByteArray := (V.take k).foldl addS acc
theorem csK_next {V : List ByteArray} {acc : List ByteArray} {k : Nat} (h : k < V.length) : csK V acc (k + 1) = addS (csK V acc k) V[k] := by
  unfold csK
  rw [List.take_succ_eq_append_getElem h, List.foldl_append]
  rfl
def csL (L : List Atm) (i : Nat) : List ByteArray := (L.take i).foldl (fun acc a => (pnames a false).foldl addS acc) []
theorem csL_next {L : List Atm} {i : Nat} (h : i < L.length) : csL L (i + 1) = csK (pnames L[i] false) (csL L i) (pnames L[i] false).length := by
  unfold csL csK
  rw [List.take_succ_eq_append_getElem h, List.foldl_append, List.take_length]
  rfl
theorem addS_len (l : List ByteArray) (s : ByteArray) : (addS l s).length ≤ l.length + 1 := by
  unfold addS
  split <;> simp
theorem addS_nodup {l : List ByteArray} {s : ByteArray} (h : l.Nodup) : (addS l s).Nodup := by
  unfold addS
  split
  · exact h
  · rename_i hs
    rw [List.nodup_append]
    refine ⟨h, by simp, fun a ha b hb => ?_⟩
    rw [List.mem_singleton] at hb
    subst hb
    rintro rfl
    exact hs (hasB_iff.2 ha)
theorem addsF_mem : ∀ (V : List ByteArray) {acc : List ByteArray} {x : ByteArray}, x ∈ V.foldl addS acc ↔ x ∈ acc ∨ x ∈ V
  | [], acc, x => by simp
  | v :: V, acc, x => by
    rw [List.foldl_cons, addsF_mem V, addS_mem, List.mem_cons, or_assoc]
theorem addsF_nodup : ∀ (V : List ByteArray) {acc : List ByteArray}, acc.Nodup → (V.foldl addS acc).Nodup
  | [], acc, h => h
  | v :: V, acc, h => by rw [List.foldl_cons]; exact addsF_nodup V (addS_nodup h)
theorem addsF_len : ∀ (V : List ByteArray) {acc : List ByteArray}, (V.foldl addS acc).length ≤ acc.length + V.length
  | [], acc => by simp
  | v :: V, acc => by
    have h1 := addsF_len V (acc := addS acc v)
    have h2 := addS_len acc v
    rw [List.foldl_cons, List.length_cons]
    omega
theorem csF_mem : ∀ (L : List Atm) {acc : List ByteArray} {x : ByteArray}, x ∈ L.foldl (fun acc a => (pnames a false).foldl addS acc) acc ↔ x ∈ acc ∨ ∃ a ∈ L, x ∈ pnames a false
  | [], acc, x => by simp
  | a :: L, acc, x => by
    rw [List.foldl_cons, csF_mem L, addsF_mem, or_assoc]
    simp
theorem csF_nodup : ∀ (L : List Atm) {acc : List ByteArray}, acc.Nodup → (L.foldl (fun acc a => (pnames a false).foldl addS acc) acc).Nodup
  | [], acc, h => h
  | a :: L, acc, h => by rw [List.foldl_cons]; exact csF_nodup L (addsF_nodup _ h)
theorem csF_len : ∀ (L : List Atm) {acc : List ByteArray}, (L.foldl (fun acc a => (pnames a false).foldl addS acc) acc).length ≤ acc.length + 4 * L.length
  | [], acc => by simp
  | a :: L, acc => by
    have h1 := csF_len L (acc := (pnames a false).foldl addS acc)
    have h2 := addsF_len (pnames a false) (acc := acc)
    have h3 : (pnames a false).length ≤ 4 := Nat.le_trans (pnamesC_len a a.count) a.count_le
    rw [List.foldl_cons, List.length_cons]
    omega
def csAll (L : List Atm) : List ByteArray := L.foldl (fun acc a => (pnames a false).foldl addS acc) []
theorem csL_all (L : List Atm) : csL L L.length = csAll L := by unfold csL csAll; rw [List.take_length]
theorem mem_csAll {L : List Atm} {x : ByteArray} : x ∈ csAll L ↔ ∃ a ∈ L, x ∈ pnames a false := by
  unfold csAll
  rw [csF_mem]
  simp
theorem csAll_sz {L : List Atm} (h : ∀ a ∈ L, AtSz a) : ∀ s ∈ csAll L, s.size ≤ 1000000 := fun s hs => by
  obtain ⟨a, ha, hx⟩ := mem_csAll.1 hs
  obtain ⟨i, _, _, rfl⟩ := (mem_pnamesC a.count_le).1 hx
  exact Nat.le_trans ((h a ha).2.2 i) (by decide)
def constsF (p : Pol) : List ByteArray := sortB (csAll (atomsF p))
theorem consts13_does {p : Pol} (h : Lt13 p) : Does Tryz.prog 19 [poA p] (fun m => (.c (slC stC (csAll (atomsF p)).isEmpty (constsF p)), m)) := by
  have cC := (atoms_does h).shut
  have hsz := csAll_sz (atomsF_sz h)
  have hll := atomsF_len h
  unfold constsF
  have hnd : (csAll (atomsF p)).Nodup := csF_nodup _ List.nodup_nil
  have hln : (csAll (atomsF p)).length ≤ 1000000 := by
    have := csF_len (atomsF p) (acc := [])
    rw [List.length_nil] at this
    unfold csAll
    omega
  generalize atomsF p = L at *
  refine does_of' Tryz.func19 rfl (by kernel_rfl) rfl Tryz.ntmps19 rfl rfl fun Q hQ => ?_
  repeat (first | refine tr_seq_k fun _ _ => ?_ | (refine tr_region ?_; simp only [go_sem, List.getElem?_toArray, reduceCtorEq, Nat.reduceEqDiff, Nat.reduceLT, Nat.reduceLeDiff, Nat.reduceAdd, ↓reduceIte]) | (refine call_of (cC) ?_ ?_; (first | rfl | simp only [go_sem, reduceCtorEq, Nat.reduceEqDiff, Nat.reduceLT, Nat.reduceLeDiff, Nat.reduceAdd, Nat.reduceMul, Nat.reduceSub, Nat.reduceBEq, ↓reduceIte, shut_col]); simp only [go_sem, reduceCtorEq, Nat.reduceEqDiff, Nat.reduceLT, ↓reduceIte]) | refine k_of (by assumption) ?_ | refine tr_block ?_)
  refine tr_loop_k (σ := Nat) (fun i => [(3, .mapp 1), (10, .c (slC atC L.isEmpty L)), (11, iA L.length), (12, iA i)]) (fun i => ⟨[⟨false, [.c (slC stC p.e1 p.prin), .c (slC prC p.e2 p.preds), .c (slC clC p.e3 p.clears), iA p.quota, iA p.budget, .c (slC ruC p.e4 p.rules), .c (slC grC p.e5 p.grants)]⟩, ⟨false, [.ent (setEs .string u0 (csL L i))]⟩], []⟩)
    (fun i => i ≤ L.length) (fun i => L.length - i) 0 (Nat.zero_le _) ⟨rfl, rfl, rfl, rfl, trivial⟩ rfl ?_
  rintro i hi K hK
  repeat (first | refine tr_seq_k fun _ _ => ?_ | (refine tr_region ?_; simp only [go_sem, Nat.reduceEqDiff, Nat.reduceLT, ↓reduceIte]) | refine k_of (by assumption) ?_)
  refine tr_cond rfl (fun ht => ?_) (fun hf => ?_)
  · have hlt : i < L.length := by
      have := of_decide_eq_true ht
      omega
    have ws := wrap_succ (show i ≤ 1000000000 by omega)
    have ix := idxA12 (ex := L.isEmpty) hlt
    have on := csL_next hlt
    generalize L[i] = a at *
    have cV := consts3_does a
    have hV : (pnames a false).length ≤ 4 := Nat.le_trans (pnamesC_len a a.count) a.count_le
    generalize pnames a false = V at *
    repeat (first | refine tr_seq_k fun _ _ => ?_ | (refine tr_region ?_; simp only [go_sem, List.getElem?_toArray, Nat.reduceEqDiff, Nat.reduceLT, Nat.reduceLeDiff, Nat.reduceAdd, ↓reduceIte, ix, atC]) | (refine call_of (cV) ?_ ?_; (first | rfl | simp only [go_sem, reduceCtorEq, Nat.reduceEqDiff, Nat.reduceLT, Nat.reduceLeDiff, Nat.reduceAdd, Nat.reduceMul, Nat.reduceSub, Nat.reduceBEq, ↓reduceIte, ix, atC, shut_col]); simp only [go_sem, Nat.reduceEqDiff, Nat.reduceLT, ↓reduceIte]) | refine k_of (by assumption) ?_ | refine tr_block ?_ | (refine tr_skip ?_; try simp only [ex_seq]))
    refine tr_loop_k (σ := Nat) (fun k => [(3, .mapp 1), (10, .c (slC atC L.isEmpty L)), (11, iA L.length), (12, iA i), (17, .c (slC stC V.isEmpty V)), (18, iA V.length), (19, iA k)]) (fun k => ⟨[⟨false, [.c (slC stC p.e1 p.prin), .c (slC prC p.e2 p.preds), .c (slC clC p.e3 p.clears), iA p.quota, iA p.budget, .c (slC ruC p.e4 p.rules), .c (slC grC p.e5 p.grants)]⟩, ⟨false, [.ent (setEs .string u0 (csK V (csL L i) k))]⟩, ⟨false, ([.c (.v (.string a.says)), .c (.v (.string a.pred)), .c (.v (.int .i64 a.n)), .c (.v (.bool a.a0.v)), .c (.v (.string a.a0.name)), .c (.v (.bool a.a1.v)), .c (.v (.string a.a1.name)), .c (.v (.bool a.a2.v)), .c (.v (.string a.a2.name)), .c (.v (.bool a.a3.v)), .c (.v (.string a.a3.name))] : List AV)⟩], []⟩)
      (fun k => k ≤ V.length) (fun k => V.length - k) 0 (Nat.zero_le _) ⟨rfl, rfl, rfl, rfl, rfl, rfl, rfl, trivial⟩ rfl ?_
    rintro k hk K2 hK2
    repeat (first | refine tr_seq_k fun _ _ => ?_ | (refine tr_region ?_; simp only [go_sem, Nat.reduceEqDiff, Nat.reduceLT, ↓reduceIte]) | refine k_of (by assumption) ?_)
    refine tr_cond rfl (fun ht => ?_) (fun hf => ?_)
    · have hkl : k < V.length := by
        have := of_decide_eq_true ht
        omega
      have ws2 := wrap_succ (show k ≤ 1000000000 by omega)
      have ixs := idxS12 (ex := V.isEmpty) hkl
      have pu := on_put (P := Tryz.prog) Tryz.underlying9 (u := u0) (csK V (csL L i) k) V[k]
      rw [← csK_next hkl] at pu
      repeat (first | refine tr_seq_k fun _ _ => ?_ | (refine tr_region ?_; simp only [go_sem, Nat.reduceEqDiff, Nat.reduceLT, ↓reduceIte, ixs, stC, pu, ws2]) | refine k_of (by assumption) ?_ | refine tr_block ?_ | (refine tr_skip ?_; try simp only [ex_seq]))
      exact hK2 (k + 1) _ _ hkl ⟨⟨rfl, rfl, rfl, rfl, rfl, rfl, rfl, trivial⟩, Keep.refl _, rfl, rfl, Nat.le_refl _, Nat.le_refl _⟩ (by omega)
    · have hkl : k = V.length := by
        have := of_decide_eq_false hf
        omega
      subst hkl
      repeat (first | (refine tr_region ?_; simp only [go_sem, Nat.reduceEqDiff, Nat.reduceLT, ↓reduceIte, ws]) | refine k_of (by assumption) ?_ | (refine tr_exit ?_; try simp only [ex_seq_exit, ex_block_exit, ex_seq, ex_block, ↓reduceIte]))
      exact hK (i + 1) _ _ hlt ⟨⟨rfl, rfl, rfl, rfl, trivial⟩, by rw [on]; exact Keep.of (eh := [_]) (ew := []) rfl (List.append_nil _).symm, rfl, rfl, Nat.le_refl _, Nat.zero_le _⟩ (by omega)
  · have hil : i = L.length := by
      have := of_decide_eq_false hf
      omega
    subst hil
    rw [csL_all]
    repeat (first | refine tr_seq_k fun _ _ => ?_ | (refine tr_region ?_; simp only [go_sem, Nat.reduceEqDiff, Nat.reduceLT, ↓reduceIte]) | refine k_of (by assumption) ?_ | (refine tr_exit ?_; try simp only [ex_seq_exit, ex_block_exit, ex_seq, ↓reduceIte]))
    refine ⟨_, _, Or.inr ⟨keys13_gives _ _ 1, ?_⟩⟩
    refine ⟨_, _, Or.inr ⟨sorted13_gives (b := 2) (bm := 1) (l := csAll L) rfl rfl hnd hsz hln, ?_⟩⟩
    repeat (first | refine k_of (by assumption) ?_ | (refine tr_ret ?_; try simp only [ex_seq_ret, ex_block_ret]))
    refine (hQ _ _ [.c (slC stC (csAll L).isEmpty (sortB (csAll L)))] ?_ (fun m => rfl)).2 <;> simp only [go_sem, Nat.reduceEqDiff, Nat.reduceAdd, ↓reduceIte, Tryz.f19]
end Go.Proofs.YtinbfakpjnnagaaGreatDoor
namespace Go.Proofs.YtinbfakpjnnagaaGreatDoor
open Go.Vs Go.Vs.Ab
set_option maxRecDepth 100000
set_option maxHeartbeats 4000000
theorem said_does (a : Atm) (hS : AtSz a) : Does Tryz.prog 70 [atA a] (fun m => (sA (psaid a), m)) := by
  have h4 := a.count_le
  have cc := count_does a
  refine does_of' Tryz.func70 rfl (by kernel_rfl) rfl Tryz.ntmps70 rfl rfl fun Q hQ => ?_
  repeat (first | refine tr_seq_k fun _ _ => ?_ | (refine tr_region ?_; simp only [go_sem, List.getElem?_toArray, reduceCtorEq, Nat.reduceEqDiff, Nat.reduceLT, ↓reduceIte]) | refine k_of (by assumption) ?_ | refine tr_block ?_)
  refine tr_loop_k (σ := Nat) (fun k => [(1, .ptr 0 0), (3, sA (psaidK a k)), (4, iA k)]) (fun k => ⟨[⟨false, ([.c (.v (.string a.says)), .c (.v (.string a.pred)), .c (.v (.int .i64 a.n)), .c (.v (.bool a.a0.v)), .c (.v (.string a.a0.name)), .c (.v (.bool a.a1.v)), .c (.v (.string a.a1.name)), .c (.v (.bool a.a2.v)), .c (.v (.string a.a2.name)), .c (.v (.bool a.a3.v)), .c (.v (.string a.a3.name))] : List AV)⟩], []⟩)
    (fun k => k ≤ a.count) (fun k => a.count - k) 0 (Nat.zero_le _) ⟨rfl, rfl, rfl, trivial⟩ rfl ?_
  rintro k hk K hK
  have hsz := psaidK_size hS k
  have hk2 : k * 1000002 ≤ 4 * 1000002 := Nat.mul_le_mul_right _ (by omega)
  have hsz : (psaidK a k).size ≤ 7000000 := by omega
  clear hk2
  repeat (first | refine tr_seq_k fun _ _ => ?_ | (refine tr_region ?_; simp only [go_sem, Nat.reduceEqDiff, Nat.reduceLT, Nat.reduceLeDiff, Nat.reduceAdd, ↓reduceIte]) | (refine call_of (cc) ?_ ?_; (first | rfl | simp only [go_sem, reduceCtorEq, Nat.reduceEqDiff, Nat.reduceLT, Nat.reduceLeDiff, Nat.reduceAdd, Nat.reduceMul, Nat.reduceSub, Nat.reduceBEq, ↓reduceIte, shut_col]); simp only [go_sem, Nat.reduceEqDiff, Nat.reduceLT, ↓reduceIte]) | refine k_of (by assumption) ?_)
  refine tr_cond rfl (fun ht => ?_) (fun hf => ?_)
  · have hlt : k < a.count := by simpa using ht
    have hk4 : k < 4 := by omega
    have ws := wrap_succ (show k ≤ 1000000000 by omega)
    have hs := atS a hk4
    have hn := hS.2.2 k
    cases k with
    | zero =>
      have e1 := sadd (a := psaidK a 0) (b := tOpen) (n := 8000000) (by have : tOpen.size = 1 := rfl; omega) (by decide)
      have e2 := sadd (a := psaidK a 0 ++ tOpen) (b := (a.arg 0).name) (n := 9000000) (by have : tOpen.size = 1 := rfl; simp only [ByteArray.size_append]; omega) (by decide)
      repeat (first | refine tr_seq_k fun _ _ => ?_ | (refine tr_region ?_; simp only [go_sem, Nat.reduceEqDiff, Nat.reduceLT, ↓reduceIte, show decide (((0 : Nat) : Int) = 0) = true from rfl]) | refine k_of (by assumption) ?_ | refine tr_block ?_ | (refine tr_skip ?_; try simp only [ex_seq]))
      refine tr_cond rfl (fun ht => ?_) (fun hf => ?_)
      · repeat (first | (refine tr_region ?_; simp only [go_sem, List.getElem?_toArray, reduceCtorEq, Nat.reduceEqDiff, Nat.reduceLT, Nat.reduceAdd, ↓reduceIte, e1, e2, arrT hk4, hs, ws]) | refine k_of (by assumption) ?_)
        exact hK (0 + 1) _ _ hlt ⟨⟨rfl, rfl, rfl, trivial⟩, Keep.refl _, rfl, rfl, Nat.le_refl _, Nat.le_refl _⟩ (by omega)
      · cases hf
    | succ k =>
      have e1 := sadd (a := psaidK a (k + 1)) (b := tComma) (n := 8000000) (by have : tComma.size = 2 := rfl; omega) (by decide)
      have e2 := sadd (a := psaidK a (k + 1) ++ tComma) (b := (a.arg (k + 1)).name) (n := 9000000) (by have : tComma.size = 2 := rfl; simp only [ByteArray.size_append]; omega) (by decide)
      have h0 : decide (((k + 1 : Nat) : Int) = 0) = false := decide_eq_false (by omega)
      repeat (first | refine tr_seq_k fun _ _ => ?_ | (refine tr_region ?_; simp only [go_sem, Nat.reduceEqDiff, Nat.reduceLT, ↓reduceIte, h0]) | refine k_of (by assumption) ?_ | refine tr_block ?_ | (refine tr_skip ?_; try simp only [ex_seq]))
      refine tr_cond rfl (fun ht => ?_) (fun hf => ?_)
      · cases ht
      · repeat (first | (refine tr_region ?_; simp only [go_sem, List.getElem?_toArray, reduceCtorEq, Nat.reduceEqDiff, Nat.reduceLT, ↓reduceIte, e1, e2, arrT hk4, hs, ws]) | refine k_of (by assumption) ?_)
        exact hK (k + 1 + 1) _ _ hlt ⟨⟨rfl, rfl, rfl, trivial⟩, Keep.refl _, rfl, rfl, Nat.le_refl _, Nat.le_refl _⟩ (by omega)
  · have hkl : k = a.count := by
      have := of_decide_eq_false hf
      omega
    subst hkl
    by_cases h0 : 0 < a.count
    · have hd : decide ((a.count : Int) > 0) = true := decide_eq_true (by omega)
      have hd' : decide ((0 : Int) < a.count) = true := decide_eq_true (by omega)
      have e1 := sadd (a := psaidK a a.count) (b := tShut) (n := 8000000) (by have : tShut.size = 1 := rfl; omega) (by decide)
      repeat (first | refine tr_seq_k fun _ _ => ?_ | (refine tr_region ?_; simp only [go_sem, Nat.reduceEqDiff, Nat.reduceLT, Nat.reduceLeDiff, Nat.reduceAdd, ↓reduceIte]) | (refine call_of (cc) ?_ ?_; (first | rfl | simp only [go_sem, reduceCtorEq, Nat.reduceEqDiff, Nat.reduceLT, Nat.reduceLeDiff, Nat.reduceAdd, Nat.reduceMul, Nat.reduceSub, Nat.reduceBEq, ↓reduceIte, hd, hd', shut_col]); simp only [go_sem, Nat.reduceEqDiff, Nat.reduceLT, ↓reduceIte, hd]) | refine k_of (by assumption) ?_ | (refine tr_exit ?_; try simp only [ex_seq_exit, ex_block_exit, ex_seq, ↓reduceIte]))
      refine tr_cond rfl (fun ht => ?_) (fun hf => ?_)
      · repeat (first | refine tr_seq_k fun _ _ => ?_ | (refine tr_region ?_; simp only [go_sem, Nat.reduceEqDiff, Nat.reduceLT, ↓reduceIte, e1]) | refine k_of (by assumption) ?_ | (refine tr_ret ?_; try simp only [ex_seq_ret, ex_block_ret]))
        refine (hQ _ _ [sA (psaidK a a.count ++ tShut)] ?_ (fun m => by unfold psaid; rw [if_pos h0]; rfl)).2 <;> simp only [go_sem, Nat.reduceEqDiff, ↓reduceIte, Tryz.f70]
      · cases hf
    · have hd : decide ((a.count : Int) > 0) = false := decide_eq_false (by omega)
      have hd' : decide ((0 : Int) < a.count) = false := decide_eq_false (by omega)
      have hz : a.count = 0 := by omega
      repeat (first | refine tr_seq_k fun _ _ => ?_ | (refine tr_region ?_; simp only [go_sem, Nat.reduceEqDiff, Nat.reduceLT, Nat.reduceLeDiff, Nat.reduceAdd, ↓reduceIte]) | (refine call_of (cc) ?_ ?_; (first | rfl | simp only [go_sem, reduceCtorEq, Nat.reduceEqDiff, Nat.reduceLT, Nat.reduceLeDiff, Nat.reduceAdd, Nat.reduceMul, Nat.reduceSub, Nat.reduceBEq, ↓reduceIte, hd, hd', shut_col]); simp only [go_sem, Nat.reduceEqDiff, Nat.reduceLT, ↓reduceIte, hd]) | refine k_of (by assumption) ?_ | (refine tr_exit ?_; try simp only [ex_seq_exit, ex_block_exit, ex_seq, ↓reduceIte]))
      refine tr_cond rfl (fun ht => ?_) (fun hf => ?_)
      · cases ht
      · repeat (first | refine tr_seq_k fun _ _ => ?_ | (refine tr_region ?_; simp only [go_sem, Nat.reduceEqDiff, Nat.reduceLT, ↓reduceIte]) | refine k_of (by assumption) ?_ | (refine tr_skip ?_; try simp only [ex_seq]) | (refine tr_ret ?_; try simp only [ex_seq_ret, ex_block_ret]))
        refine (hQ _ _ [sA (psaidK a a.count)] ?_ (fun m => by unfold psaid; rw [if_neg h0, hz]; rfl)).2 <;> simp only [go_sem, Nat.reduceEqDiff, ↓reduceIte, Tryz.f70]
theorem r3text_does (a : Atm) (hS : AtSz a) : Does Tryz.prog 45 [atA a] (fun m => (sA (ptext a), m)) := by
  have h4 := a.count_le
  have cs := said_does a hS
  have h1 := psaidK_size hS a.count
  have h2 : a.count * 1000002 ≤ 4 * 1000002 := Nat.mul_le_mul_right _ h4
  have h3 : (psaid a).size ≤ 8000000 := by
    unfold psaid
    split
    · have : tShut.size = 1 := rfl
      simp only [ByteArray.size_append]; omega
    · have := hS.2.1; omega
  have e1 := sadd (a := a.says) (b := tSays) (n := 2000000) (by have := hS.1; have : tSays.size = 6 := rfl; omega) (by decide)
  have e2 := sadd (a := a.says ++ tSays) (b := psaid a) (n := 20000000) (by have := hS.1; have : tSays.size = 6 := rfl; rw [ByteArray.size_append]; omega) (by decide)
  refine does_of' Tryz.func45 rfl (by kernel_rfl) rfl Tryz.ntmps45 rfl rfl fun Q hQ => ?_
  repeat (first | refine tr_seq_k fun _ _ => ?_ | (refine tr_region ?_; simp only [go_sem, reduceCtorEq, Nat.reduceEqDiff, Nat.reduceLT, ↓reduceIte]) | (refine tr_draw (id := 1) follows 10000 [4] [0, 1, 2, 3, 4, 5, 6] (by kernel_rfl) ?_; simp only [go_sem, List.getElem?_toArray, reduceCtorEq, Nat.reduceEqDiff, Nat.reduceLT, Nat.reduceLeDiff, Nat.reduceAdd, ↓reduceIte, e1]) | (refine call_of (cs) ?_ ?_; (first | rfl | simp only [go_sem, reduceCtorEq, Nat.reduceEqDiff, Nat.reduceLT, Nat.reduceLeDiff, Nat.reduceAdd, Nat.reduceMul, Nat.reduceSub, Nat.reduceBEq, ↓reduceIte, e1, e2, shut_col]); simp only [go_sem, reduceCtorEq, Nat.reduceEqDiff, Nat.reduceLT, ↓reduceIte, Bool.true_or, e2]) | refine k_of (by assumption) ?_ | (refine tr_ret ?_; try simp only [ex_seq_ret, ex_block_ret]))
  refine (hQ _ _ [sA ((a.says ++ tSays) ++ psaid a)] ?_ (fun m => rfl)).2 <;> simp only [go_sem, reduceCtorEq, Nat.reduceEqDiff, ↓reduceIte, Tryz.f45]
end Go.Proofs.YtinbfakpjnnagaaGreatDoor
namespace Go.Proofs.YtinbfakpjnnagaaGreatDoor
open Go.RowKit Go.Vs Go.Vs.Ab Go.Vs.Sm
set_option maxRecDepth 100000
set_option maxHeartbeats 4000000
theorem blt_A (a b : Atm) : blt (ptext a) (ptext b) = ltA a b := by
  show Op.bytesLess (ptext a).toList (ptext b).toList = Op.bytesLess (ptext a).data.toList (ptext b).data.toList
  rw [ByteArray.toList_eq, ByteArray.toList_eq]
def cmp8 (a b : Atm) : Int := if ltA a b = true then -1 else if ltA b a = true then 1 else 0
theorem cmp8_does (a b : Atm) (ha : AtSz a) (hb : AtSz b) : Does Tryz.prog 52 [atA a, atA b] (fun m => (iA (cmp8 a b), m)) := by
  have c1 := r3text_does a ha
  have c2 := r3text_does b hb
  have e1 := blt_A a b
  have e2 := blt_A b a
  cases h1 : ltA a b with
  | true =>
    rw [h1] at e1
    have e : cmp8 a b = -1 := by unfold cmp8; rw [if_pos h1]
    refine does_of' Tryz.func52 rfl (by kernel_rfl) rfl Tryz.ntmps52 rfl rfl fun Q hQ => ?_
    repeat (first | refine tr_seq_k fun _ _ => ?_ | (refine tr_region ?_; simp only [go_sem, reduceCtorEq, Nat.reduceEqDiff, Nat.reduceLT, ↓reduceIte, bl_blt, e1]) | (refine tr_draw (id := 1) follows 10000 [1, 3] [0, 2, 1, 3, 4, 5] (by kernel_rfl) ?_; simp only [go_sem, List.getElem?_toArray, reduceCtorEq, Nat.reduceEqDiff, Nat.reduceLT, Nat.reduceLeDiff, Nat.reduceAdd, ↓reduceIte]) | (refine call_of (c1) ?_ ?_; (first | rfl | simp only [go_sem]); simp only [go_sem, Nat.reduceBEq, Bool.true_or, Bool.false_or]) | (refine call_of (c2) ?_ ?_; (first | rfl | simp only [go_sem, reduceCtorEq, Nat.reduceEqDiff, Nat.reduceLT, Nat.reduceLeDiff, Nat.reduceAdd, Nat.reduceMul, Nat.reduceSub, Nat.reduceBEq, ↓reduceIte, bl_blt, e1, shut_col]); simp only [go_sem, Nat.reduceBEq, Bool.true_or, Bool.false_or]) | refine k_of (by assumption) ?_ | refine tr_block ?_)
    refine tr_cond rfl (fun ht => ?_) (fun hf => ?_)
    · repeat (first | refine tr_seq_k fun _ _ => ?_ | (refine tr_region ?_; simp only [go_sem, reduceCtorEq, Nat.reduceEqDiff, Nat.reduceLT, ↓reduceIte]) | refine k_of (by assumption) ?_ | (refine tr_ret ?_; try simp only [ex_seq_ret, ex_block_ret]))
      rw [e] at hQ
      refine (hQ _ _ [iA (-1)] ?_ (fun m => rfl)).2 <;> simp only [go_sem, reduceCtorEq, Nat.reduceEqDiff, ↓reduceIte, Tryz.f52]
    · cases hf
  | false =>
    rw [h1] at e1
    cases h2 : ltA b a with
    | true =>
      rw [h2] at e2
      have e : cmp8 a b = 1 := by unfold cmp8; rw [h1, if_neg (by decide), if_pos h2]
      refine does_of' Tryz.func52 rfl (by kernel_rfl) rfl Tryz.ntmps52 rfl rfl fun Q hQ => ?_
      repeat (first | refine tr_seq_k fun _ _ => ?_ | (refine tr_region ?_; simp only [go_sem, reduceCtorEq, Nat.reduceEqDiff, Nat.reduceLT, ↓reduceIte, bl_blt, e1]) | (refine tr_draw (id := 1) follows 10000 [1, 3] [0, 2, 1, 3, 4, 5] (by kernel_rfl) ?_; simp only [go_sem, List.getElem?_toArray, reduceCtorEq, Nat.reduceEqDiff, Nat.reduceLT, Nat.reduceLeDiff, Nat.reduceAdd, ↓reduceIte]) | (refine call_of (c1) ?_ ?_; (first | rfl | simp only [go_sem]); simp only [go_sem, Nat.reduceBEq, Bool.true_or, Bool.false_or]) | (refine call_of (c2) ?_ ?_; (first | rfl | simp only [go_sem, reduceCtorEq, Nat.reduceEqDiff, Nat.reduceLT, Nat.reduceLeDiff, Nat.reduceAdd, Nat.reduceMul, Nat.reduceSub, Nat.reduceBEq, ↓reduceIte, bl_blt, e1, shut_col]); simp only [go_sem, Nat.reduceBEq, Bool.true_or, Bool.false_or]) | refine k_of (by assumption) ?_ | refine tr_block ?_)
      refine tr_cond rfl (fun ht => ?_) (fun hf => ?_)
      · cases ht
      · repeat (first | refine tr_seq_k fun _ _ => ?_ | (refine tr_region ?_; simp only [go_sem, str_beq, reduceCtorEq, Nat.reduceEqDiff, Nat.reduceLT, ↓reduceIte, gt_blt, e2]) | refine k_of (by assumption) ?_)
        refine tr_cond rfl (fun ht => ?_) (fun hf => ?_)
        · repeat (first | refine tr_seq_k fun _ _ => ?_ | (refine tr_region ?_; simp only [go_sem, reduceCtorEq, Nat.reduceEqDiff, Nat.reduceLT, ↓reduceIte]) | refine k_of (by assumption) ?_ | (refine tr_ret ?_; try simp only [ex_seq_ret, ex_block_ret]))
          rw [e] at hQ
          refine (hQ _ _ [iA 1] ?_ (fun m => rfl)).2 <;> simp only [go_sem, reduceCtorEq, Nat.reduceEqDiff, ↓reduceIte, Tryz.f52]
        · cases hf
    | false =>
      rw [h2] at e2
      have e : cmp8 a b = 0 := by unfold cmp8; rw [h1, if_neg (by decide), h2, if_neg (by decide)]
      refine does_of' Tryz.func52 rfl (by kernel_rfl) rfl Tryz.ntmps52 rfl rfl fun Q hQ => ?_
      repeat (first | refine tr_seq_k fun _ _ => ?_ | (refine tr_region ?_; simp only [go_sem, reduceCtorEq, Nat.reduceEqDiff, Nat.reduceLT, ↓reduceIte, bl_blt, e1]) | (refine tr_draw (id := 1) follows 10000 [1, 3] [0, 2, 1, 3, 4, 5] (by kernel_rfl) ?_; simp only [go_sem, List.getElem?_toArray, reduceCtorEq, Nat.reduceEqDiff, Nat.reduceLT, Nat.reduceLeDiff, Nat.reduceAdd, ↓reduceIte]) | (refine call_of (c1) ?_ ?_; (first | rfl | simp only [go_sem]); simp only [go_sem, Nat.reduceBEq, Bool.true_or, Bool.false_or]) | (refine call_of (c2) ?_ ?_; (first | rfl | simp only [go_sem, reduceCtorEq, Nat.reduceEqDiff, Nat.reduceLT, Nat.reduceLeDiff, Nat.reduceAdd, Nat.reduceMul, Nat.reduceSub, Nat.reduceBEq, ↓reduceIte, bl_blt, e1, shut_col]); simp only [go_sem, Nat.reduceBEq, Bool.true_or, Bool.false_or]) | refine k_of (by assumption) ?_ | refine tr_block ?_)
      refine tr_cond rfl (fun ht => ?_) (fun hf => ?_)
      · cases ht
      · repeat (first | refine tr_seq_k fun _ _ => ?_ | (refine tr_region ?_; simp only [go_sem, str_beq, reduceCtorEq, Nat.reduceEqDiff, Nat.reduceLT, ↓reduceIte, gt_blt, e2]) | refine k_of (by assumption) ?_)
        refine tr_cond rfl (fun ht => ?_) (fun hf => ?_)
        · cases ht
        · repeat (first | refine tr_seq_k fun _ _ => ?_ | (refine tr_region ?_; simp only [go_sem, reduceCtorEq, Nat.reduceEqDiff, Nat.reduceLT, ↓reduceIte]) | refine k_of (by assumption) ?_ | (refine tr_skip ?_; try simp only [ex_seq, ex_block]) | (refine tr_ret ?_; try simp only [ex_seq_ret, ex_block_ret]))
          rw [e] at hQ
          refine (hQ _ _ [iA 0] ?_ (fun m => rfl)).2 <;> simp only [go_sem, reduceCtorEq, Nat.reduceEqDiff, ↓reduceIte, Tryz.f52]
/-! ### the document's constants -/
end Go.Proofs.YtinbfakpjnnagaaGreatDoor
namespace Go.Vs.Sm
variable {T : Type} {lt : T → T → Bool}
theorem mem_srt {x : T} : ∀ (k : Nat) (l : List T), l.length = k → x ∈ l → x ∈ srt lt l := fun k => by
  induction k with
  | zero => intro l hl h; rw [List.eq_nil_of_length_eq_zero hl] at h; cases h
  | succ k ih =>
    intro l hl h
    have hne : l ≠ [] := fun e => by rw [e] at hl; cases hl
    rw [← List.dropLast_concat_getLast hne, srt_snoc, List.mem_merge]
    rw [← List.dropLast_concat_getLast hne, List.mem_append] at h
    rcases h with h | h
    · exact Or.inl (ih _ (by rw [List.length_dropLast]; omega) h)
    · exact Or.inr h
theorem cm_facts (O : Tot lt) : ∀ (k : Nat) (l : List T), l.length = k → l.Pairwise (fun a b => (!lt b a) = true) →
    (cm lt l).Pairwise (fun a b => lt a b = true) ∧ (∀ x ∈ cm lt l, x ∈ l) ∧ ∀ x ∈ l, ∃ y ∈ cm lt l, eqB lt x y = true := fun k => by
  induction k using Nat.strongRecOn with
  | ind k ih =>
    intro l hl hs
    match l, hl, hs with
    | [], _, _ => exact ⟨List.Pairwise.nil, fun x h => h, fun x h => by cases h⟩
    | y :: r, hl, hs =>
      obtain ⟨h1, h2⟩ := List.pairwise_cons.1 hs
      have hsub := dropEq_sub (lt := lt) y r
      have hle := dropEq_le lt y r
      rw [List.length_cons] at hl
      obtain ⟨g1, g2, g3⟩ := ih _ (by omega) (dropEq lt y r) rfl (h2.sublist hsub)
      have hgt := dropEq_gt O y r h2 (fun x hx => by have := h1 x hx; simpa using this)
      rw [cm_cons]
      refine ⟨List.pairwise_cons.2 ⟨fun z hz => hgt z (g2 z hz), g1⟩, fun x hx => ?_, fun x hx => ?_⟩
      · rcases List.mem_cons.1 hx with rfl | hx
        · exact List.mem_cons_self
        · exact List.mem_cons_of_mem _ (hsub.subset (g2 x hx))
      · by_cases hxd : x ∈ dropEq lt y r
        · obtain ⟨z, hz, e⟩ := g3 x hxd
          exact ⟨z, List.mem_cons_of_mem _ hz, e⟩
        · refine ⟨y, List.mem_cons_self, ?_⟩
          rcases List.mem_cons.1 hx with rfl | hx
          · exact eqB_of (lt_irr O x) (lt_irr O x)
          · have key : ∀ (r : List T), x ∈ r → x ∉ dropEq lt y r → eqB lt x y = true := fun r => by
              induction r with
              | nil => intro h; cases h
              | cons u r ih2 =>
                intro h hn
                unfold dropEq at hn
                by_cases e : eqB lt u y = true
                · rw [if_pos e] at hn
                  rcases List.mem_cons.1 h with rfl | h
                  · exact e
                  · exact ih2 h hn
                · rw [if_neg e] at hn
                  exact absurd h hn
            exact key r hx hxd
end Go.Vs.Sm
namespace Go.Proofs.YtinbfakpjnnagaaGreatDoor
open Go.RowKit Go.Vs Go.Vs.Ab Go.Vs.Sm
set_option maxRecDepth 100000
set_option maxHeartbeats 4000000
/-! ### a form's text tells the form -/
/-! ### the forms -/
/-! ### a form's variables -/
end Go.Proofs.YtinbfakpjnnagaaGreatDoor
namespace Go.Proofs.YtinbfakpjnnagaaGreatDoor
open Go.Vs Go.Vs.Ab
set_option maxRecDepth 100000
set_option maxHeartbeats 4000000
end Go.Proofs.YtinbfakpjnnagaaGreatDoor
namespace Go.Proofs.YtinbfakpjnnagaaGreatDoor
open Go.RowKit Go.Vs Go.Vs.Ab Go.Vs.Sm
set_option maxRecDepth 100000
set_option maxHeartbeats 4000000
theorem sortB_facts {l : List ByteArray} (hnd : l.Nodup) : (sortB l).Pairwise (fun a b => blt a b = true) ∧ (∀ x, x ∈ sortB l ↔ x ∈ l) ∧ (sortB l).Nodup := by
  have tr : ∀ a b c : List UInt8, leB a b = true → leB b c = true → leB a c = true := fun a b c h1 h2 => by simp only [leB, decide_eq_true_eq] at *; exact List.le_trans h1 h2
  have tt : ∀ a b : List UInt8, (leB a b || leB b a) = true := fun a b => by simp only [leB, Bool.or_eq_true, decide_eq_true_eq]; exact List.le_total a b
  have hp := List.mergeSort_perm (l.map fun s => s.data.toList) leB
  have hs := List.pairwise_mergeSort tr tt (l.map fun s => s.data.toList)
  have hn : ((l.map fun s => s.data.toList).mergeSort leB).Nodup := by
    rw [hp.nodup_iff]
    rw [List.nodup_iff_pairwise_ne, List.pairwise_map]
    rw [List.nodup_iff_pairwise_ne] at hnd
    exact hnd.imp fun h e => h (str_inj e)
  have hm : ∀ x, x ∈ sortB l ↔ x ∈ l := fun x => by
    unfold sortB
    rw [List.mem_map]
    constructor
    · rintro ⟨y, hy, rfl⟩
      obtain ⟨s, hs, rfl⟩ := List.mem_map.1 (hp.mem_iff.1 hy)
      exact hs
    · intro h
      exact ⟨x.data.toList, hp.mem_iff.2 (List.mem_map.2 ⟨x, h, rfl⟩), rfl⟩
  have hb : (sortB l).Pairwise (fun a b => blt a b = true) := by
    unfold sortB
    rw [List.pairwise_map]
    rw [List.nodup_iff_pairwise_ne] at hn
    refine (hs.and hn).imp fun {a b} h => ?_
    show Op.bytesLess (ByteArray.toList _) (ByteArray.toList _) = true
    rw [ByteArray.toList_eq, ByteArray.toList_eq]
    show Op.bytesLess a b = true
    rw [Go.Proofs.bytesLess_eq]
    have h1 : a ≤ b := of_decide_eq_true h.1
    refine decide_eq_true ?_
    rcases bl_total a b with h2 | h2 | h2
    · rwa [bytesLess_eq, decide_eq_true_eq] at h2
    · exact absurd h2 h.2
    · rw [bytesLess_eq, decide_eq_true_eq] at h2
      exact absurd h1 (List.not_le.2 h2)
  refine ⟨hb, hm, ?_⟩
  rw [List.nodup_iff_pairwise_ne]
  exact hb.imp fun {a b} h e => by rw [e, blt_irrefl] at h; cases h
/-! ### a head and a body in one list -/
theorem cm_len {T : Type} {lt : T → T → Bool} : ∀ (k : Nat) (l : List T), l.length = k → (cm lt l).length ≤ l.length := fun k => by
  induction k using Nat.strongRecOn with
  | ind k ih =>
    intro l hl
    match l, hl with
    | [], _ => exact Nat.le_refl _
    | y :: r, hl =>
      rw [List.length_cons] at hl
      have h1 := dropEq_le lt y r
      have h2 := ih _ (by omega) (dropEq lt y r) rfl
      rw [cm_cons, List.length_cons, List.length_cons]
      omega
theorem srtA_len (l : List Atm) : (srtA l).length ≤ l.length := by
  have h1 := cm_len (lt := ltA) _ (srt ltA l) rfl
  rw [srt_len ltA _ l rfl] at h1
  exact h1
end Go.Proofs.YtinbfakpjnnagaaGreatDoor
namespace Go.Proofs.YtinbfakpjnnagaaGreatDoor
open Go.RowKit Go.Vs Go.Vs.Ab Go.Vs.Sm
set_option maxRecDepth 100000
set_option maxHeartbeats 4000000
theorem srtA_short {l : List Atm} (h : l.length < 2) : srtA l = l := by
  match l, h with
  | [], _ => rfl
  | [x], _ => simp [srtA, srt, cm, cmpct]
theorem srtA_halves {l : List Atm} (h : 2 ≤ l.length) : srtA l = dm ltA (srtA (l.take (l.length / 2))) (srtA (l.drop (l.length / 2))) := by
  have O : Tot ltA := totK txA
  have e := srtF_law O (l.length + 1) l (by omega)
  have e1 := srtF_law O l.length (l.take (l.length / 2)) (by rw [List.length_take]; omega)
  have e2 := srtF_law O l.length (l.drop (l.length / 2)) (by rw [List.length_drop]; omega)
  unfold srtA
  rw [← e, ← e1, ← e2]
  show (if _ then _ else _) = _
  rw [if_neg (by omega)]
/-! ### parts of slices -/
theorem sl_uptoF {P : Program} {T : Type} (enc : T → List CV) (k : Nat) (hk : ∀ x, (enc x).length = k) {t e : TypeId} (ht : P.underlying t = some (.slice e)) (he : tsz P e = some k) {ex : Bool} {l : List T} {j : Nat} (hj : j < l.length) :
    aSlice P t (.c (slC enc ex l)) none (some (j : Int)) none = some (.c (slC enc false (l.take j))) := by
  have h1 : Nat.ble (j * k) (l.flatMap enc).length = true := by
    rw [flat_length enc k hk, Nat.ble_eq]
    exact Nat.mul_le_mul_right _ (Nat.le_of_lt hj)
  have h3 : slV (.c (slC enc ex l)) = some (l.length, l.flatMap enc) := rfl
  have h4 : bnds l.length none (some (j : Int)) none = some (0, j, none) := by
    unfold bnds
    simp [natI_nat, Nat.le_of_lt hj]
  have h6 : (l.take j).length = j := by rw [List.length_take]; omega
  have h7 : Nat.beq j l.length = false := by
    rw [Bool.eq_false_iff]
    exact fun e => absurd (Nat.eq_of_beq_eq_true e) (by omega)
  simp only [aSlice, ht, h3, he, h4, h1, if_true, resl, Nat.zero_mul, List.drop_zero, Nat.sub_zero, (flat_cut enc k hk (Nat.le_of_lt hj)).1, h7, Bool.and_false, if_false, Bool.false_eq_true, slC, h6]
  cases ex <;> rfl
theorem uptoA {ex : Bool} {l : List Atm} {j : Nat} (hj : j < l.length) : aSlice Tryz.prog 34 (.c (slC atC ex l)) none (some (j : Int)) none = some (.c (slC atC false (l.take j))) := sl_uptoF atC 11 (fun _ => rfl) Tryz.underlying34 sz33 hj
theorem from1A {ex : Bool} {x : Atm} {l : List Atm} : aSlice Tryz.prog 34 (.c (slC atC ex (x :: l))) (some 1) none none = some (.c (slC atC ex l)) := fromA (l := x :: l) (j := 1) (by decide) (by simp)
theorem idx0A {ex : Bool} {x : Atm} {l : List Atm} : aIndexAddr Tryz.prog 34 (.c (slC atC ex (x :: l))) (.c (.v (.int .i64 0))) = some (.cptr (atC x ++ l.flatMap atC)) := idxA12 (l := x :: l) (k := 0) (by simp)
theorem halfI {n : Nat} (h : n ≤ 1000000) : IntKind.i64.wrap ((n : Int).tdiv 2) = ((n / 2 : Nat) : Int) := by
  have e : (n : Int).tdiv 2 = ((n / 2 : Nat) : Int) := by rw [Int.tdiv_eq_ediv_of_nonneg (by omega)]; omega
  rw [e, wrap_in (by omega)]
/-! ### the document's Sorted -/
theorem srtA_mem {x : Atm} {l : List Atm} (h : x ∈ srtA l) : x ∈ l := by
  have O : Tot ltA := totK txA
  exact srt_mem ((cm_facts O _ (srt ltA l) rfl (srt_sorted O _ _ rfl)).2.1 x h)
theorem appZ (hp : List Blk) (r : List Atm) (ex : Bool) (hl : r.length ≤ 1000000) : aAppend Tryz.prog ⟨hp, []⟩ 34 (.c (.sl true 0 [])) (.c (slC atC ex r)) = some (colA atC 0 r, ⟨hp, colH 33 11 r⟩) := by
  have := appAs hp [] r ex (by simpa using hl)
  rwa [List.nil_append] at this
theorem cmp8_lt {a b : Atm} (h : ltA a b = true) : cmp8 a b = -1 := by unfold cmp8; rw [if_pos h]
theorem cmp8_gt {a b : Atm} (h : ltA a b = false) (h2 : ltA b a = true) : cmp8 a b = 1 := by unfold cmp8; rw [if_neg (by rw [h]; decide), if_pos h2]
theorem cmp8_eq {a b : Atm} (h : ltA a b = false) (h2 : ltA b a = false) : cmp8 a b = 0 := by unfold cmp8; rw [if_neg (by rw [h]; decide), if_neg (by rw [h2]; decide)]
theorem r8sorted_does : ∀ (n : Nat) (l : List Atm) (ex : Bool), l.length ≤ n → l.length ≤ 1000000 → (∀ x ∈ l, AtSz x) → Does Tryz.prog 38 [.c (slC atC ex l)] (freshA atC 33 11 (srtA l)) := fun n => by
  induction n with
  | zero =>
    intro l ex hn hl hsz
    obtain rfl : l = [] := List.eq_nil_of_length_eq_zero (by omega)
    have q1 : decide ((([] : List Atm).length : Int) < 2) = true := by decide
    have ap := fun hp => appZ hp [] ex (by simp)
    rw [srtA_short (l := []) (by decide)]
    refine does_of' Tryz.func38 rfl (by kernel_rfl) rfl Tryz.ntmps38 rfl rfl fun Q hQ => ?_
    repeat (first | refine tr_seq_k fun _ _ => ?_ | (refine tr_region ?_; simp only [go_sem, List.getElem?_toArray, reduceCtorEq, Nat.reduceEqDiff, Nat.reduceLT, ↓reduceIte]) | refine k_of (by assumption) ?_)
    refine tr_cond rfl (fun ht => ?_) (fun hf => ?_)
    · repeat (first | refine tr_seq_k fun _ _ => ?_ | (refine tr_region ?_; simp only [go_sem, reduceCtorEq, Nat.reduceEqDiff, Nat.reduceLT, ↓reduceIte, ap, build0A, zero_max]) | refine k_of (by assumption) ?_ | (refine tr_ret ?_; try simp only [ex_seq_ret]))
      refine (hQ _ _ [colA atC 0 []] ?_ (fun m => ret_col atC 33 11 _ _ m)).2 <;> simp only [go_sem, reduceCtorEq, ↓reduceIte, Tryz.f38]
    · cases hf
  | succ n ih =>
    intro l ex hn hl hsz
    by_cases h2 : l.length < 2
    · have q1 : decide ((l.length : Int) < 2) = true := decide_eq_true (by omega)
      have ap := fun hp => appZ hp l ex hl
      rw [srtA_short h2]
      refine does_of' Tryz.func38 rfl (by kernel_rfl) rfl Tryz.ntmps38 rfl rfl fun Q hQ => ?_
      repeat (first | refine tr_seq_k fun _ _ => ?_ | (refine tr_region ?_; simp only [go_sem, List.getElem?_toArray, reduceCtorEq, Nat.reduceEqDiff, Nat.reduceLT, ↓reduceIte, q1]) | refine k_of (by assumption) ?_)
      refine tr_cond rfl (fun ht => ?_) (fun hf => ?_)
      · repeat (first | refine tr_seq_k fun _ _ => ?_ | (refine tr_region ?_; simp only [go_sem, reduceCtorEq, Nat.reduceEqDiff, Nat.reduceLT, ↓reduceIte, ap, build0A, zero_max]) | refine k_of (by assumption) ?_ | (refine tr_ret ?_; try simp only [ex_seq_ret]))
        refine (hQ _ _ [colA atC 0 l] ?_ (fun m => ret_col atC 33 11 _ _ m)).2 <;> simp only [go_sem, reduceCtorEq, ↓reduceIte, Tryz.f38]
      · cases hf
    · have q1 : decide ((l.length : Int) < 2) = false := decide_eq_false (by omega)
      have hh := halfI hl
      have u1 := uptoA (ex := ex) (l := l) (j := l.length / 2) (by omega)
      have u2 := fromA (ex := ex) (l := l) (j := l.length / 2) (by omega) (by omega)
      have bq : ((2 : Int) = 0) = False := eq_false (by decide)
      have k1 : (l.take (l.length / 2)).length = l.length / 2 := by rw [List.length_take]; omega
      have k2 : (l.drop (l.length / 2)).length = l.length - l.length / 2 := List.length_drop
      have c1 := (ih (l.take (l.length / 2)) false (by omega) (by omega) (fun x hx => hsz x (List.mem_of_mem_take hx))).shut
      have c2 := (ih (l.drop (l.length / 2)) ex (by omega) (by omega) (fun x hx => hsz x (List.mem_of_mem_drop hx))).shut
      have e := srtA_halves (l := l) (by omega)
      have sA : ∀ x ∈ srtA (l.take (l.length / 2)), AtSz x := fun x hx => hsz x (List.mem_of_mem_take (srtA_mem hx))
      have sB : ∀ x ∈ srtA (l.drop (l.length / 2)), AtSz x := fun x hx => hsz x (List.mem_of_mem_drop (srtA_mem hx))
      have lA := srtA_len (l.take (l.length / 2))
      have lB := srtA_len (l.drop (l.length / 2))
      rw [e]
      generalize srtA (l.take (l.length / 2)) = A0 at *
      generalize srtA (l.drop (l.length / 2)) = B0 at *
      refine does_of' Tryz.func38 rfl (by kernel_rfl) rfl Tryz.ntmps38 rfl rfl fun Q hQ => ?_
      repeat (first | refine tr_seq_k fun _ _ => ?_ | (refine tr_region ?_; simp only [go_sem, List.getElem?_toArray, reduceCtorEq, Nat.reduceEqDiff, Nat.reduceLT, ↓reduceIte, q1]) | refine k_of (by assumption) ?_)
      refine tr_cond rfl (fun ht => ?_) (fun hf => ?_)
      · cases ht
      repeat (first | refine tr_seq_k fun _ _ => ?_ | (refine tr_region ?_; simp only [go_sem, List.getElem?_toArray, reduceCtorEq, Nat.reduceEqDiff, Nat.reduceLT, ↓reduceIte, bq, hh]) | (refine tr_draw (id := 4) follows 10000 [3, 7] [0, 1, 2, 4, 5, 6, 3, 7, 8, 9] (by kernel_rfl) ?_; simp only [go_sem, List.getElem?_toArray, reduceCtorEq, Nat.reduceEqDiff, Nat.reduceLT, ↓reduceIte, u1, u2]) | (refine call_of (c1) ?_ ?_; (first | rfl | simp only [go_sem]); simp only [go_sem, Nat.reduceBEq, Bool.true_or, Bool.false_or]) | (refine call_of (c2) ?_ ?_; (first | rfl | simp only [go_sem, reduceCtorEq, Nat.reduceEqDiff, Nat.reduceLT, Nat.reduceLeDiff, Nat.reduceAdd, Nat.reduceMul, Nat.reduceSub, Nat.reduceBEq, ↓reduceIte, bq, hh, u1, u2, shut_col]); simp only [go_sem, Nat.reduceBEq, Bool.true_or, Bool.false_or]) | refine k_of (by assumption) ?_ | refine tr_block ?_ | (refine tr_skip ?_; try simp only [ex_seq]))
      generalize A0.isEmpty = eA at *
      generalize B0.isEmpty = eB at *
      refine tr_loop_k (σ := List Atm × List Atm × List Atm) (fun q => [(4, .c (slC atC eA q.2.1)), (5, .c (slC atC eB q.2.2)), (6, colA atC 0 q.1)]) (fun q => ⟨[], colH 33 11 q.1⟩)
        (fun q => q.1 ++ dm ltA q.2.1 q.2.2 = dm ltA A0 B0 ∧ q.1.length + q.2.1.length + q.2.2.length ≤ l.length ∧ (∀ x ∈ q.2.1, AtSz x) ∧ ∀ x ∈ q.2.2, AtSz x) (fun q => q.2.1.length + q.2.2.length) ([], A0, B0) ⟨rfl, by simp only [List.length_nil]; omega, sA, sB⟩ (by exact ⟨rfl, rfl, rfl, trivial⟩) rfl ?_
      clear sA sB lA lB
      rintro ⟨O, A, B⟩ ⟨hI, hLn, sA, sB⟩ K hK
      dsimp only at hI hLn sA sB ⊢
      have g0 : decide (((0 : Nat) : Int) > 0) = false := by decide
      match A, B with
      | [], B =>
        have r1 := fun hp => appAs hp O [] eA (by simp only [List.length_nil] at hLn ⊢; omega)
        have r2 := fun hp => appAs hp O B eB (by simp only [List.length_nil] at hLn; omega)
        rw [List.append_nil] at r1
        have e2 : O ++ B = dm ltA A0 B0 := by rw [← hI, dm_nil]
        repeat (first | refine tr_seq_k fun _ _ => ?_ | (refine tr_region ?_; simp only [go_sem, List.getElem?_toArray, Nat.reduceEqDiff, Nat.reduceLT, ↓reduceIte, g0]) | refine k_of (by assumption) ?_)
        refine tr_cond rfl (fun ht => ?_) (fun hf => ?_)
        · cases ht
        · rw [← e2] at hQ
          repeat (first | refine tr_seq_k fun _ _ => ?_ | (refine tr_region ?_; simp only [go_sem, Nat.reduceEqDiff, Nat.reduceLT, ↓reduceIte, r1, r2]) | refine k_of (by assumption) ?_ | (refine tr_exit ?_; try simp only [ex_seq_exit, ex_block_exit, ex_seq, ↓reduceIte]) | (refine tr_ret ?_; try simp only [ex_seq_ret, ex_block_ret]))
          refine (hQ _ _ [colA atC 0 (O ++ B)] ?_ (fun m => ret_col atC 33 11 _ _ m)).2 <;> simp only [go_sem, Nat.reduceEqDiff, ↓reduceIte, Tryz.f38]
      | x :: A, [] =>
        have r1 := fun hp => appAs hp O (x :: A) eA (by simp only [List.length_nil] at hLn; omega)
        have r2 := fun hp => appAs hp (O ++ (x :: A)) [] eB (by rw [List.length_append, List.length_nil]; simp only [List.length_nil] at hLn; omega)
        rw [List.append_nil] at r2
        have e2 : O ++ (x :: A) = dm ltA A0 B0 := by rw [← hI, dm_right]
        have g1 : decide (((A.length + 1 : Nat) : Int) > 0) = true := decide_eq_true (by omega)
        repeat (first | refine tr_seq_k fun _ _ => ?_ | (refine tr_region ?_; simp only [go_sem, List.getElem?_toArray, Nat.reduceEqDiff, Nat.reduceLT, ↓reduceIte, g0, g1]) | refine k_of (by assumption) ?_)
        refine tr_cond rfl (fun ht => ?_) (fun hf => ?_)
        · cases ht
        · rw [← e2] at hQ
          repeat (first | refine tr_seq_k fun _ _ => ?_ | (refine tr_region ?_; simp only [go_sem, Nat.reduceEqDiff, Nat.reduceLT, ↓reduceIte, r1, r2]) | refine k_of (by assumption) ?_ | (refine tr_exit ?_; try simp only [ex_seq_exit, ex_block_exit, ex_seq, ↓reduceIte]) | (refine tr_ret ?_; try simp only [ex_seq_ret, ex_block_ret]))
          refine (hQ _ _ [colA atC 0 (O ++ (x :: A))] ?_ (fun m => ret_col atC 33 11 _ _ m)).2 <;> simp only [go_sem, Nat.reduceEqDiff, ↓reduceIte, Tryz.f38]
      | x :: A, y :: B =>
        have g1 : decide (((A.length + 1 : Nat) : Int) > 0) = true := decide_eq_true (by omega)
        have g2 : decide (((B.length + 1 : Nat) : Int) > 0) = true := decide_eq_true (by omega)
        have ixa := idx0A (ex := eA) (x := x) (l := A)
        have ixb := idx0A (ex := eB) (x := y) (l := B)
        have fa := from1A (ex := eA) (x := x) (l := A)
        have fb := from1A (ex := eB) (x := y) (l := B)
        have cC := cmp8_does x y (sA x List.mem_cons_self) (sB y List.mem_cons_self)
        simp only [List.length_cons] at hLn
        rw [dm_cons] at hI
        cases h1 : ltA x y with
        | true =>
          rw [cmp8_lt h1] at cC
          rw [if_pos h1] at hI
          have k0 : decide ((-1 : Int) < 0) = true := by decide
          have ap := fun hp => appA hp O x (by omega)
          have b1 := build1A x
          repeat (first | refine tr_seq_k fun _ _ => ?_ | (refine tr_region ?_; simp only [go_sem, List.getElem?_toArray, Nat.reduceEqDiff, Nat.reduceLT, ↓reduceIte, g1, g2]) | refine k_of (by assumption) ?_)
          refine tr_cond rfl (fun ht => ?_) (fun hf => ?_)
          · repeat (first | refine tr_seq_k fun _ _ => ?_ | (refine tr_region ?_; simp only [go_sem, Nat.reduceEqDiff, Nat.reduceLT, ↓reduceIte]) | (refine tr_draw (id := 7) follows 10000 [6] [0, 1, 2, 3, 4, 5, 6, 7] (by kernel_rfl) ?_; simp only [go_sem, List.getElem?_toArray, Nat.reduceEqDiff, Nat.reduceLT, Nat.reduceLeDiff, ↓reduceIte, ixa, ixb, atC]) | (refine call_of (cC) ?_ ?_; (first | rfl | simp only [go_sem, reduceCtorEq, Nat.reduceEqDiff, Nat.reduceLT, Nat.reduceLeDiff, Nat.reduceAdd, Nat.reduceMul, Nat.reduceSub, Nat.reduceBEq, ↓reduceIte, ixa, ixb, atC, shut_col]); simp only [go_sem, Bool.true_or]) | refine k_of (by assumption) ?_ | refine tr_block ?_ | (refine tr_skip ?_; try simp only [ex_seq]))
            skip
            refine tr_cond rfl (fun ht => ?_) (fun hf => ?_)
            · repeat ((refine tr_draw (id := 10) follows 10000 [4, 5] [0, 1, 2, 3, 6, 7, 4, 5, 8, 9] (by kernel_rfl) ?_; simp only [go_sem, List.getElem?_toArray, Nat.reduceEqDiff, Nat.reduceLT, Nat.reduceLeDiff, Nat.reduceBEq, ↓reduceIte, Bool.true_or, Bool.false_or, ixa, fa, atC, b1, one_max, ap]))
              exact hK (O ++ [x], A, y :: B) _ _ ⟨by dsimp only; rw [List.append_assoc]; exact hI, by simp only [List.length_append, List.length_cons, List.length_nil]; omega, fun z hz => sA z (List.mem_cons_of_mem _ hz), sB⟩ ⟨by exact ⟨rfl, rfl, rfl, trivial⟩, Keep.of (eh := []) (ew := []) rfl (by rw [List.append_nil]), by simp only [lowF, low_col]; rfl, rfl, Nat.le_refl _, Nat.zero_le _⟩ (by simp only [List.length_cons]; omega)
            · cases hf
          · cases hf
        | false =>
          rw [if_neg (by rw [h1]; decide)] at hI
          cases h3 : ltA y x with
          | true =>
            rw [cmp8_gt h1 h3] at cC
            rw [if_pos h3] at hI
            have k0 : decide ((1 : Int) < 0) = false := by decide
            have k1 : decide ((1 : Int) > 0) = true := by decide
            have ap := fun hp => appA hp O y (by omega)
            have b1 := build1A y
            repeat (first | refine tr_seq_k fun _ _ => ?_ | (refine tr_region ?_; simp only [go_sem, List.getElem?_toArray, Nat.reduceEqDiff, Nat.reduceLT, ↓reduceIte, g1, g2]) | refine k_of (by assumption) ?_)
            refine tr_cond rfl (fun ht => ?_) (fun hf => ?_)
            · repeat (first | refine tr_seq_k fun _ _ => ?_ | (refine tr_region ?_; simp only [go_sem, Nat.reduceEqDiff, Nat.reduceLT, ↓reduceIte]) | (refine tr_draw (id := 7) follows 10000 [6] [0, 1, 2, 3, 4, 5, 6, 7] (by kernel_rfl) ?_; simp only [go_sem, List.getElem?_toArray, Nat.reduceEqDiff, Nat.reduceLT, Nat.reduceLeDiff, ↓reduceIte, ixa, ixb, atC]) | (refine call_of (cC) ?_ ?_; (first | rfl | simp only [go_sem, reduceCtorEq, Nat.reduceEqDiff, Nat.reduceLT, Nat.reduceLeDiff, Nat.reduceAdd, Nat.reduceMul, Nat.reduceSub, Nat.reduceBEq, ↓reduceIte, ixa, ixb, atC, shut_col]); simp only [go_sem, Bool.true_or]) | refine k_of (by assumption) ?_ | refine tr_block ?_ | (refine tr_skip ?_; try simp only [ex_seq]))
              skip
              refine tr_cond rfl (fun ht => ?_) (fun hf => ?_)
              · cases ht
              · repeat (first | refine tr_seq_k fun _ _ => ?_ | (refine tr_region ?_; simp only [go_sem, Nat.reduceEqDiff, Nat.reduceLT, ↓reduceIte, k1]) | refine k_of (by assumption) ?_)
                refine tr_cond rfl (fun ht => ?_) (fun hf => ?_)
                · repeat ((refine tr_draw (id := 12) follows 10000 [4, 5] [0, 1, 2, 3, 6, 7, 4, 5, 8, 9] (by kernel_rfl) ?_; simp only [go_sem, List.getElem?_toArray, Nat.reduceEqDiff, Nat.reduceLT, Nat.reduceLeDiff, Nat.reduceBEq, ↓reduceIte, Bool.true_or, Bool.false_or, ixb, fb, atC, b1, one_max, ap]))
                  exact hK (O ++ [y], x :: A, B) _ _ ⟨by dsimp only; rw [List.append_assoc]; exact hI, by simp only [List.length_append, List.length_cons, List.length_nil]; omega, sA, fun z hz => sB z (List.mem_cons_of_mem _ hz)⟩ ⟨by exact ⟨rfl, rfl, rfl, trivial⟩, Keep.of (eh := []) (ew := []) rfl (by rw [List.append_nil]), by simp only [lowF, low_col]; rfl, rfl, Nat.le_refl _, Nat.zero_le _⟩ (by simp only [List.length_cons]; omega)
                · cases hf
            · cases hf
          | false =>
            rw [cmp8_eq h1 h3] at cC
            rw [if_neg (by rw [h3]; decide)] at hI
            have k0 : decide ((0 : Int) < 0) = false := by decide
            have k1 : decide ((0 : Int) > 0) = false := by decide
            repeat (first | refine tr_seq_k fun _ _ => ?_ | (refine tr_region ?_; simp only [go_sem, List.getElem?_toArray, Nat.reduceEqDiff, Nat.reduceLT, ↓reduceIte, g1, g2]) | refine k_of (by assumption) ?_)
            refine tr_cond rfl (fun ht => ?_) (fun hf => ?_)
            · repeat (first | refine tr_seq_k fun _ _ => ?_ | (refine tr_region ?_; simp only [go_sem, Nat.reduceEqDiff, Nat.reduceLT, ↓reduceIte]) | (refine tr_draw (id := 7) follows 10000 [6] [0, 1, 2, 3, 4, 5, 6, 7] (by kernel_rfl) ?_; simp only [go_sem, List.getElem?_toArray, Nat.reduceEqDiff, Nat.reduceLT, Nat.reduceLeDiff, ↓reduceIte, ixa, ixb, atC]) | (refine call_of (cC) ?_ ?_; (first | rfl | simp only [go_sem, reduceCtorEq, Nat.reduceEqDiff, Nat.reduceLT, Nat.reduceLeDiff, Nat.reduceAdd, Nat.reduceMul, Nat.reduceSub, Nat.reduceBEq, ↓reduceIte, ixa, ixb, atC, shut_col]); simp only [go_sem, Bool.true_or]) | refine k_of (by assumption) ?_ | refine tr_block ?_ | (refine tr_skip ?_; try simp only [ex_seq]))
              skip
              refine tr_cond rfl (fun ht => ?_) (fun hf => ?_)
              · cases ht
              · repeat (first | refine tr_seq_k fun _ _ => ?_ | (refine tr_region ?_; simp only [go_sem, Nat.reduceEqDiff, Nat.reduceLT, ↓reduceIte, k1]) | refine k_of (by assumption) ?_)
                refine tr_cond rfl (fun ht => ?_) (fun hf => ?_)
                · cases ht
                · repeat ((refine tr_region ?_; simp only [go_sem, Nat.reduceEqDiff, Nat.reduceLT, ↓reduceIte, fb]))
                  exact hK (O, x :: A, B) _ _ ⟨hI, by simp only [List.length_cons]; omega, sA, fun z hz => sB z (List.mem_cons_of_mem _ hz)⟩ ⟨by exact ⟨rfl, rfl, rfl, trivial⟩, Keep.refl _, by simp only [lowF, low_col]; rfl, rfl, Nat.le_refl _, Nat.zero_le _⟩ (by simp only [List.length_cons]; omega)
            · cases hf
end Go.Proofs.YtinbfakpjnnagaaGreatDoor
namespace Go.Vs.Ab
open Go.RowKit
variable {P : Program} {X : Mem} {W0 w w' : World} {m : Mm}
/-! ### one block among others -/
end Go.Vs.Ab
namespace Go.Vs.Ab
open Go.RowKit
variable {P : Program}
def apK {T : Type} (hw : List Hw) (k : Nat) : List T → Nat
  | [] => hw.length
  | _ :: _ => k
def apH {T : Type} (hw : List Hw) (k : Nat) (e : TypeId) (size : Nat) : List T → List Hw
  | [] => hw ++ [⟨1, e, size⟩]
  | _ :: l => hw.set k ⟨l.length + 1 + 1, e, size⟩
def ColIs {T : Type} (hw : List Hw) (k : Nat) (e : TypeId) (size : Nat) (l : List T) : Prop := l ≠ [] → hw[k]? = some ⟨l.length, e, size⟩
theorem colIs_nil {T : Type} (hw : List Hw) (k : Nat) (e : TypeId) (size : Nat) : ColIs (T := T) hw k e size [] := fun h => absurd rfl h
theorem colIs_low {T : Type} {enc : T → List CV} {hw : List Hw} {k : Nat} {e : TypeId} {size : Nat} {l : List T} (h : ColIs hw k e size l) (i : Nat) : low i hw.length (colA enc k l) = true := by
  cases l with
  | nil => rfl
  | cons x l =>
    have := (List.getElem?_eq_some_iff.1 (h (by simp))).1
    simp only [colA, low, Nat.blt_eq]
    exact this
theorem app_gen {T : Type} (enc : T → List CV) {t e : TypeId} {size bytes : Nat} (hk : ∀ x, (enc x).length = size) (ht : P.underlying t = some (.slice e)) (hi : info3 P e = some (size, bytes)) {hw : List Hw} {k : Nat} {l : List T} {x : T} (hI : ColIs hw k e size l)
    (hl : l.length + 1 ≤ maxLen) (hb : (l.length + 1) * bytes ≤ 140737488355328) (hp : List Blk) :
    aAppend P ⟨hp, hw⟩ t (colA enc k l) (.c (.sl true 1 (enc x))) = some (colA enc (apK hw k l) (l ++ [x]), ⟨hp, apH hw k e size l⟩) := by
  have hf : ∀ lc, lc = l.length * size → fits l.length 1 size bytes lc (enc x).length = true := fun lc e1 => by
    have h1 : Nat.ble (l.length + 1) maxLen = true := by simpa using hl
    have h2 : Nat.ble ((l.length + 1) * bytes) 140737488355328 = true := by simpa using hb
    simp only [fits, e1, hk, h1, h2, Nat.one_mul, Nat.beq_refl, Bool.and_self]
  have hne : l ++ [x] ≠ [] := by simp
  rw [colA_ne enc _ hne]
  have e2 : (l ++ [x]).length = l.length + 1 := by simp
  have e3 : (l ++ [x]).flatMap enc = l.flatMap enc ++ enc x := by simp
  cases l with
  | nil =>
    have := hf 0 (by simp)
    simp only [List.length_nil] at this
    simp only [aAppend, ht, hi, slV, colA, dst, apK, apH, List.length_nil, this, if_true, List.nil_append, Nat.zero_add]
    rw [if_neg (by decide)]
    simp
  | cons y l =>
    have := hf (((y :: l).flatMap enc).length) (flat_length enc size hk _)
    simp only [List.length_cons] at this
    have h5 : hw[k]? = some ⟨l.length + 1, e, size⟩ := hI (by simp)
    simp only [aAppend, ht, hi, slV, colA, dst, apK, apH, h5, Nat.beq_refl, this, Bool.and_self, if_true, e2, e3, List.length_cons]
    rw [if_neg (by decide)]
theorem apH_self {T : Type} {hw : List Hw} {k : Nat} {e : TypeId} {size : Nat} {l : List T} (x : T) (h : ColIs hw k e size l) : ColIs (apH hw k e size l) (apK hw k l) e size (l ++ [x]) := fun _ => by
  cases l with
  | nil => simp [apH, apK]
  | cons y l =>
    have := (List.getElem?_eq_some_iff.1 (h (by simp))).1
    simp only [apH, apK]
    rw [List.getElem?_set_self this]
    simp
theorem apH_len {T : Type} (hw : List Hw) (k : Nat) (e : TypeId) (size : Nat) (l : List T) : hw.length ≤ (apH hw k e size l).length := by
  cases l with
  | nil => simp [apH]
  | cons => simp [apH]
end Go.Vs.Ab
namespace Go.Proofs.YtinbfakpjnnagaaGreatDoor
open Go.RowKit Go.Vs Go.Vs.Ab Go.Vs.Sm
set_option maxRecDepth 100000
set_option maxHeartbeats 4000000
theorem ret_gen {T : Type} {enc : T → List CV} {e : TypeId} {size k : Nat} {l : List T} {hw : List Hw} (h : ColIs hw k e size l) (hp : List Blk) (m : Mm) : retV ⟨hp, hw⟩ m (colA enc k l) = some (freshA enc e size l m) := by
  cases l with
  | nil => simp [colA, colH, retV, ret1, shut, freshA]
  | cons x l =>
    have := h (by simp)
    rw [List.length_cons] at this
    simp [colA, colH, retV, ret1, freshA, this]
theorem colIs_app {T : Type} {hw r : List Hw} {k : Nat} {e : TypeId} {size : Nat} {l : List T} (h : ColIs hw k e size l) : ColIs (hw ++ r) k e size l := fun hl => by
  have g := h hl
  rw [List.getElem?_append_left (List.getElem?_eq_some_iff.1 g).1]
  exact g
theorem app0_ex (l : List Atm) (ex : Bool) (hl : l.length ≤ 1000000) (hw : List Hw) :
    (∀ hp, aAppend Tryz.prog ⟨hp, hw⟩ 34 (.c (.sl true 0 [])) (.c (slC atC ex l)) = some (.c (slC atC l.isEmpty l), ⟨hp, hw⟩)) ∨
    (l.isEmpty = false ∧ ∀ hp, aAppend Tryz.prog ⟨hp, hw⟩ 34 (.c (.sl true 0 [])) (.c (slC atC ex l)) = some (.own hw.length l.length (l.flatMap atC), ⟨hp, hw ++ [⟨l.length, 33, 11⟩]⟩)) := by
  have i3 := info_a
  by_cases h0 : l = []
  · subst h0
    refine Or.inl fun hp => ?_
    simp only [aAppend, Tryz.underlying34, i3, slV, slC, dst, List.flatMap_nil, List.length_nil, Nat.beq_refl]
    rfl
  · refine Or.inr ⟨by rw [List.isEmpty_eq_false_iff]; exact h0, fun hp => ?_⟩
    have hf : fits 0 l.length 11 136 0 (l.flatMap atC).length = true := by
      have h1 : Nat.ble (0 + l.length) maxLen = true := by rw [Nat.ble_eq]; exact Nat.le_trans (show 0 + l.length ≤ 1000001 by omega) (by decide)
      have h2 : Nat.ble ((0 + l.length) * 136) 140737488355328 = true := by rw [Nat.ble_eq]; omega
      simp only [fits, flat_length atC 11 (fun _ => rfl), h1, h2, Nat.beq_refl, Bool.and_self, Nat.zero_mul]
    have hv : slV (.c (slC atC ex l)) = some (l.length, l.flatMap atC) := rfl
    have hd : dst (.c (.sl true 0 [])) = .exact 0 [] := rfl
    have hz : Nat.beq l.length 0 = false := by
      rw [Bool.eq_false_iff]
      exact fun e => h0 (List.eq_nil_of_length_eq_zero (Nat.eq_of_beq_eq_true e))
    simp only [aAppend, Tryz.underlying34, i3, hv, hd, hf, if_true, hz, List.length_nil, List.nil_append, Nat.zero_add]
    rfl
theorem all_ex' (h : Atm) (l : List Atm) (ex : Bool) (hl : l.length ≤ 1000000) :
    (l.isEmpty = true ∧ ∀ hp, aAppend Tryz.prog ⟨hp, []⟩ 34 (.c (.sl true 1 [.v (.string h.says), .v (.string h.pred), .v (.int .i64 h.n), .v (.bool h.a0.v), .v (.string h.a0.name), .v (.bool h.a1.v), .v (.string h.a1.name), .v (.bool h.a2.v), .v (.string h.a2.name), .v (.bool h.a3.v), .v (.string h.a3.name)])) (.c (slC atC ex l)) = some (.c (.sl true (h :: l).length ((h :: l).flatMap atC)), ⟨hp, []⟩)) ∨
    (l.isEmpty = false ∧ ∀ hp, aAppend Tryz.prog ⟨hp, []⟩ 34 (.c (.sl true 1 [.v (.string h.says), .v (.string h.pred), .v (.int .i64 h.n), .v (.bool h.a0.v), .v (.string h.a0.name), .v (.bool h.a1.v), .v (.string h.a1.name), .v (.bool h.a2.v), .v (.string h.a2.name), .v (.bool h.a3.v), .v (.string h.a3.name)])) (.c (slC atC ex l)) = some (.own 0 (h :: l).length ((h :: l).flatMap atC), ⟨hp, [⟨(h :: l).length, 33, 11⟩]⟩)) := by
  by_cases h0 : l = []
  · subst h0
    refine Or.inl ⟨rfl, fun hp => ?_⟩
    have i3 := info_a
    simp only [aAppend, Tryz.underlying34, i3, slV, dst, List.flatMap_nil, List.length_nil, Nat.beq_refl]
    rfl
  · refine Or.inr ⟨by rw [List.isEmpty_eq_false_iff]; exact h0, fun hp => ?_⟩
    have hf : fits 1 l.length 11 136 11 (l.flatMap atC).length = true := by
      have h1 : Nat.ble (1 + l.length) maxLen = true := by rw [Nat.ble_eq]; exact Nat.le_trans (show 1 + l.length ≤ 1000001 by omega) (by decide)
      have h2 : Nat.ble ((1 + l.length) * 136) 140737488355328 = true := by rw [Nat.ble_eq]; omega
      simp only [fits, flat_length atC 11 (fun _ => rfl), h1, h2, Nat.beq_refl, Bool.and_self, Nat.one_mul]
    have hv : slV (.c (slC atC ex l)) = some (l.length, l.flatMap atC) := rfl
    have hd : dst (.c (.sl true 1 [.v (.string h.says), .v (.string h.pred), .v (.int .i64 h.n), .v (.bool h.a0.v), .v (.string h.a0.name), .v (.bool h.a1.v), .v (.string h.a1.name), .v (.bool h.a2.v), .v (.string h.a2.name), .v (.bool h.a3.v), .v (.string h.a3.name)])) = .exact 1 [.v (.string h.says), .v (.string h.pred), .v (.int .i64 h.n), .v (.bool h.a0.v), .v (.string h.a0.name), .v (.bool h.a1.v), .v (.string h.a1.name), .v (.bool h.a2.v), .v (.string h.a2.name), .v (.bool h.a3.v), .v (.string h.a3.name)] := rfl
    have hz : Nat.beq l.length 0 = false := by
      rw [Bool.eq_false_iff]
      exact fun e => h0 (List.eq_nil_of_length_eq_zero (Nat.eq_of_beq_eq_true e))
    have hlc : List.length ([.v (.string h.says), .v (.string h.pred), .v (.int .i64 h.n), .v (.bool h.a0.v), .v (.string h.a0.name), .v (.bool h.a1.v), .v (.string h.a1.name), .v (.bool h.a2.v), .v (.string h.a2.name), .v (.bool h.a3.v), .v (.string h.a3.name)] : List CV) = 11 := rfl
    have i3 := info_a
    simp only [aAppend, Tryz.underlying34, i3, hv, hd, hlc, hf, if_true, hz, List.length_nil, List.nil_append, List.length_cons, List.flatMap_cons]
    rw [Nat.add_comm 1]
    rfl
def grClsR (g : Grt) : Cls := ⟨g.head, g.body.isEmpty, leadA g :: g.body⟩
def clausesR (p : Pol) : List Cls := p.rules.map ruCls ++ p.grants.map grClsR
theorem r13grant_does (g : Grt) (hl : g.body.length ≤ 100000) : Does Tryz.prog 10 [grA g] (fun m => (clsA (grClsR g), m)) := by
  have b1 := build1A (leadA g)
  have hA : g.body.isEmpty = true ∧ _ ∨ g.body.isEmpty = false ∧ _ := all_ex' (leadA g) g.body g.ex (by omega)
  have hcl : clsA (grClsR g) = .agg ([.v (.string g.head.says), .v (.string g.head.pred), .v (.int .i64 g.head.n), .v (.bool g.head.a0.v), .v (.string g.head.a0.name), .v (.bool g.head.a1.v), .v (.string g.head.a1.name), .v (.bool g.head.a2.v), .v (.string g.head.a2.name), .v (.bool g.head.a3.v), .v (.string g.head.a3.name)] ++ [slC atC g.body.isEmpty (leadA g :: g.body)]) := rfl
  obtain ⟨B, hB⟩ : ∃ B, B = leadA g :: g.body := ⟨_, rfl⟩
  rw [hcl]
  rw [← hB] at hA ⊢
  dsimp only [leadA] at hA b1
  clear hcl
  refine does_of' Tryz.func10 rfl (by kernel_rfl) rfl Tryz.ntmps10 rfl rfl fun Q hQ => ?_
  rcases hA with ⟨e, hA⟩ | ⟨e, hA⟩
  · rw [e] at hQ
    repeat (first | refine tr_seq_k fun _ _ => ?_ | (refine tr_region ?_; simp only [go_sem, List.getElem?_toArray, reduceCtorEq, Nat.reduceEqDiff, Nat.reduceLT, Nat.reduceLeDiff, Nat.reduceAdd, ↓reduceIte]) | (refine tr_draw (id := 3) follows 8 [3, 6, 8] [0, 1, 2, 4, 5, 3, 6, 7, 8] (by kernel_rfl) ?_; simp only [go_sem, List.getElem?_toArray, reduceCtorEq, Nat.reduceEqDiff, Nat.reduceLT, Nat.reduceLeDiff, Nat.reduceAdd, Nat.reduceBEq, ↓reduceIte, Bool.true_or, Bool.false_or, b1, one_max, hA]) | refine k_of (by assumption) ?_ | (refine tr_ret ?_; try simp only [ex_seq_ret, ex_block_ret]))
    refine (hQ _ _ [.agg ([.v (.string g.head.says), .v (.string g.head.pred), .v (.int .i64 g.head.n), .v (.bool g.head.a0.v), .v (.string g.head.a0.name), .v (.bool g.head.a1.v), .v (.string g.head.a1.name), .v (.bool g.head.a2.v), .v (.string g.head.a2.name), .v (.bool g.head.a3.v), .v (.string g.head.a3.name)] ++ [slC atC true B])] ?_ (fun m => rfl)).2 <;> simp only [go_sem, reduceCtorEq, Nat.reduceEqDiff, Nat.reduceLeDiff, Nat.reduceAdd, ↓reduceIte, Tryz.f10]
  · rw [e] at hQ
    repeat (first | refine tr_seq_k fun _ _ => ?_ | (refine tr_region ?_; simp only [go_sem, List.getElem?_toArray, reduceCtorEq, Nat.reduceEqDiff, Nat.reduceLT, Nat.reduceLeDiff, Nat.reduceAdd, ↓reduceIte]) | (refine tr_draw (id := 3) follows 8 [3, 6, 8] [0, 1, 2, 4, 5, 3, 6, 7, 8] (by kernel_rfl) ?_; simp only [go_sem, List.getElem?_toArray, reduceCtorEq, Nat.reduceEqDiff, Nat.reduceLT, Nat.reduceLeDiff, Nat.reduceAdd, Nat.reduceBEq, ↓reduceIte, Bool.true_or, Bool.false_or, b1, one_max, hA]) | refine k_of (by assumption) ?_ | (refine tr_ret ?_; try simp only [ex_seq_ret, ex_block_ret]))
    refine (hQ _ _ [.agg ([.v (.string g.head.says), .v (.string g.head.pred), .v (.int .i64 g.head.n), .v (.bool g.head.a0.v), .v (.string g.head.a0.name), .v (.bool g.head.a1.v), .v (.string g.head.a1.name), .v (.bool g.head.a2.v), .v (.string g.head.a2.name), .v (.bool g.head.a3.v), .v (.string g.head.a3.name)] ++ [slC atC false B])] ?_ (fun m => rfl)).2 <;> simp only [go_sem, reduceCtorEq, Nat.reduceEqDiff, Nat.reduceLeDiff, Nat.reduceAdd, ↓reduceIte, Tryz.f10]
/-! ### the clauses -/
def clsRG (p : Pol) (k : Nat) : List Cls := p.rules.map ruCls ++ (p.grants.take k).map grClsR
theorem clsRG_next {p : Pol} {k : Nat} (hk : k < p.grants.length) : clsRG p (k + 1) = clsRG p k ++ [grClsR p.grants[k]] := by
  unfold clsRG
  rw [List.take_succ_eq_append_getElem hk, List.map_append, List.append_assoc]
  rfl
theorem apCl {hw : List Hw} {k : Nat} {l : List Cls} (c : Cls) (hI : ColIs hw k 38 12 l) (hl : l.length ≤ 1000000) (hp : List Blk) : aAppend Tryz.prog ⟨hp, hw⟩ 46 (colA clsC k l) (.c (.sl true 1 (clsC c))) = some (colA clsC (apK hw k l) (l ++ [c]), ⟨hp, apH hw k 38 12 l⟩) :=
  app_gen (P := Tryz.prog) clsC (x := c) (fun _ => rfl) Tryz.underlying46 info_c13 hI (Nat.le_trans (show _ ≤ 1000001 by omega) (by decide)) (by omega) hp
theorem bld1Cl (h : Atm) (ex : Bool) (B : List Atm) : aBuildSlice Tryz.prog 46 1 [(0, .agg [.v (.string h.says), .v (.string h.pred), .v (.int .i64 h.n), .v (.bool h.a0.v), .v (.string h.a0.name), .v (.bool h.a1.v), .v (.string h.a1.name), .v (.bool h.a2.v), .v (.string h.a2.name), .v (.bool h.a3.v), .v (.string h.a3.name), .sl ex B.length (B.flatMap atC)])] = some (clsC ⟨h, ex, B⟩) := bld1C13 ⟨h, ex, B⟩
theorem r13clauses_does (p : Pol) (h1 : p.rules.length ≤ 100000) (h2 : p.grants.length ≤ 100000) (h3 : ∀ r ∈ p.rules, r.body.length ≤ 100000) (h4 : ∀ g ∈ p.grants, g.body.length ≤ 100000) : Does Tryz.prog 14 [poA p] (freshA clsC 38 12 (clausesR p)) := by
  refine does_of' Tryz.func14 rfl (by kernel_rfl) rfl Tryz.ntmps14 rfl rfl fun Q hQ => ?_
  repeat (first | refine tr_seq_k fun _ _ => ?_ | (refine tr_region ?_; simp only [go_sem, reduceCtorEq, Nat.reduceEqDiff, Nat.reduceLT, ↓reduceIte]) | refine k_of (by assumption) ?_ | refine tr_block ?_)
  refine tr_loop_k (σ := Nat × Nat × List Hw) (fun q => [(1, .ptr 0 0), (3, colA clsC q.2.1 (clsT p q.1)), (4, iA q.1)]) (fun q => ⟨[⟨false, [.c (slC stC p.e1 p.prin), .c (slC prC p.e2 p.preds), .c (slC clC p.e3 p.clears), iA p.quota, iA p.budget, .c (slC ruC p.e4 p.rules), .c (slC grC p.e5 p.grants)]⟩], q.2.2⟩)
    (fun q => q.1 ≤ p.rules.length ∧ ColIs q.2.2 q.2.1 38 12 (clsT p q.1)) (fun q => p.rules.length - q.1) (0, 0, []) ⟨Nat.zero_le _, colIs_nil _ _ _ _⟩ ⟨rfl, rfl, rfl, trivial⟩ rfl ?_
  rintro ⟨i, k, hw⟩ ⟨hi, hI⟩ K hK
  dsimp only at hi hI ⊢
  by_cases hlt : i < p.rules.length
  · have q1 : decide ((i : Int) < (p.rules.length : Nat)) = true := decide_eq_true (by omega)
    have ws := wrap_succ (show i ≤ 1000000000 by omega)
    have ix := idxRu (ex := p.e4) hlt
    have on := clsT_next hlt
    have tl : (clsT p i).length ≤ i := by unfold clsT; rw [List.length_map, List.length_take]; omega
    have hb := h3 _ (List.getElem_mem hlt)
    generalize p.rules[i] = x at *
    repeat (first | refine tr_seq_k fun _ _ => ?_ | (refine tr_region ?_; simp only [go_sem, List.getElem?_toArray, reduceCtorEq, Nat.reduceEqDiff, Nat.reduceLT, ↓reduceIte, q1]) | refine k_of (by assumption) ?_)
    refine tr_cond rfl (fun ht => ?_) (fun hf => ?_)
    · rcases app0_ex x.body x.ex (by omega) hw with hA | ⟨he, hA⟩
      · have ap := apCl (hw := hw) (ruCls x) hI (by omega)
        have hN := apH_self (ruCls x) hI
        rw [← on] at ap hN
        have b1 := bld1R x.head x.body
        rw [show (⟨x.head, x.body.isEmpty, x.body⟩ : Cls) = ruCls x from rfl] at b1
        repeat (first | refine tr_seq_k fun _ _ => ?_ | (refine tr_region ?_; simp only [go_sem, Nat.reduceEqDiff, Nat.reduceLT, ↓reduceIte, ws]) | (refine tr_draw (id := 5) follows 10000 [7, 14, 16, 17] [0, 1, 2, 3, 4, 5, 6, 8, 9, 10, 11, 12, 13, 7, 14, 15, 16, 17, 18] (by kernel_rfl) ?_; simp only [go_sem, List.getElem?_toArray, reduceCtorEq, Nat.reduceEqDiff, Nat.reduceLT, Nat.reduceLeDiff, Nat.reduceAdd, Nat.reduceBEq, ↓reduceIte, Bool.true_or, Bool.false_or, ix, build0A, zero_max, one_max, hA, b1, ap]) | refine k_of (by assumption) ?_ | refine tr_block ?_ | (refine tr_skip ?_; try simp only [ex_seq]))
        exact hK (i + 1, apK hw k (clsT p i), apH hw k 38 12 (clsT p i)) _ _ ⟨hlt, hN⟩ ⟨⟨rfl, rfl, rfl, trivial⟩, Keep.of (eh := []) (ew := []) rfl (by rw [List.append_nil]), by simp only [lowF, colIs_low (enc := clsC) hN]; rfl, rfl, Nat.le_refl _, Nat.zero_le _⟩ (by dsimp only; omega)
      · have ap := apCl (hw := hw ++ [⟨x.body.length, 33, 11⟩]) (ruCls x) (colIs_app hI) (by omega)
        have hN := apH_self (ruCls x) (colIs_app (r := [⟨x.body.length, 33, 11⟩]) hI)
        rw [← on] at ap hN
        have b1 := bld1Cl x.head false x.body
        rw [show (⟨x.head, false, x.body⟩ : Cls) = ruCls x from by unfold ruCls; rw [he]] at b1
        repeat (first | refine tr_seq_k fun _ _ => ?_ | (refine tr_region ?_; simp only [go_sem, Nat.reduceEqDiff, Nat.reduceLT, ↓reduceIte, ws]) | (refine tr_draw (id := 5) follows 10000 [7, 14, 16, 17] [0, 1, 2, 3, 4, 5, 6, 8, 9, 10, 11, 12, 13, 7, 14, 15, 16, 17, 18] (by kernel_rfl) ?_; simp only [go_sem, List.getElem?_toArray, reduceCtorEq, Nat.reduceEqDiff, Nat.reduceLT, Nat.reduceLeDiff, Nat.reduceAdd, Nat.reduceBEq, ↓reduceIte, Bool.true_or, Bool.false_or, ix, build0A, zero_max, one_max, hA, b1, ap]) | refine k_of (by assumption) ?_ | refine tr_block ?_ | (refine tr_skip ?_; try simp only [ex_seq]))
        exact hK (i + 1, apK (hw ++ [⟨x.body.length, 33, 11⟩]) k (clsT p i), apH (hw ++ [⟨x.body.length, 33, 11⟩]) k 38 12 (clsT p i)) _ _ ⟨hlt, hN⟩ ⟨⟨rfl, rfl, rfl, trivial⟩, Keep.of (eh := []) (ew := []) rfl (by rw [List.append_nil]), by simp only [lowF, colIs_low (enc := clsC) hN]; rfl, rfl, Nat.le_refl _, Nat.zero_le _⟩ (by dsimp only; omega)
    · cases hf
  · have q1 : decide ((i : Int) < (p.rules.length : Nat)) = false := decide_eq_false (by omega)
    obtain rfl : i = p.rules.length := by omega
    have e0 : clsT p p.rules.length = clsRG p 0 := by unfold clsT clsRG; rw [List.take_length, List.take_zero, List.map_nil, List.append_nil]
    rw [e0] at hI ⊢
    repeat (first | refine tr_seq_k fun _ _ => ?_ | (refine tr_region ?_; simp only [go_sem, List.getElem?_toArray, reduceCtorEq, Nat.reduceEqDiff, Nat.reduceLT, ↓reduceIte, q1]) | refine k_of (by assumption) ?_)
    refine tr_cond rfl (fun ht => ?_) (fun hf => ?_)
    · cases ht
    repeat (first | refine tr_seq_k fun _ _ => ?_ | (refine tr_region ?_; simp only [go_sem, Nat.reduceEqDiff, Nat.reduceLT, ↓reduceIte]) | refine k_of (by assumption) ?_ | refine tr_block ?_ | (refine tr_exit ?_; try simp only [ex_seq_exit, ex_block_exit, ex_seq, ↓reduceIte]))
    refine tr_loop_k (σ := Nat × Nat × List Hw) (fun q => [(1, .ptr 0 0), (3, colA clsC q.2.1 (clsRG p q.1)), (5, iA q.1)]) (fun q => ⟨[⟨false, [.c (slC stC p.e1 p.prin), .c (slC prC p.e2 p.preds), .c (slC clC p.e3 p.clears), iA p.quota, iA p.budget, .c (slC ruC p.e4 p.rules), .c (slC grC p.e5 p.grants)]⟩], q.2.2⟩)
      (fun q => q.1 ≤ p.grants.length ∧ ColIs q.2.2 q.2.1 38 12 (clsRG p q.1) ∧ hw.length ≤ q.2.2.length) (fun q => p.grants.length - q.1) (0, k, hw) ⟨Nat.zero_le _, hI, Nat.le_refl _⟩ ⟨rfl, rfl, rfl, trivial⟩ rfl ?_
    clear hK hI q1 hlt
    rintro ⟨i, k, hw'⟩ ⟨hi, hI, hlw⟩ K hK
    dsimp only at hi hI hlw ⊢
    by_cases hlt : i < p.grants.length
    · have q1 : decide ((i : Int) < (p.grants.length : Nat)) = true := decide_eq_true (by omega)
      have ws := wrap_succ (show i ≤ 1000000000 by omega)
      have ix := idxGr (ex := p.e5) hlt
      have on := clsRG_next hlt
      have tl : (clsRG p i).length ≤ p.rules.length + i := by unfold clsRG; rw [List.length_append, List.length_map, List.length_map, List.length_take]; omega
      have hb := h4 _ (List.getElem_mem hlt)
      generalize p.grants[i] = x at *
      have cG := r13grant_does x hb
      have ap := apCl (hw := hw') (grClsR x) hI (by omega)
      have hN := apH_self (grClsR x) hI
      rw [← on] at ap hN
      have b1 := bld1C13 (grClsR x)
      repeat (first | refine tr_seq_k fun _ _ => ?_ | (refine tr_region ?_; simp only [go_sem, List.getElem?_toArray, reduceCtorEq, Nat.reduceEqDiff, Nat.reduceLT, ↓reduceIte, q1]) | refine k_of (by assumption) ?_)
      refine tr_cond rfl (fun ht => ?_) (fun hf => ?_)
      · repeat (first | refine tr_seq_k fun _ _ => ?_ | (refine tr_region ?_; simp only [go_sem, List.getElem?_toArray, reduceCtorEq, Nat.reduceEqDiff, Nat.reduceLT, Nat.reduceLeDiff, ↓reduceIte, ix, grC, one_max, ws]) | (refine call_of (cG) ?_ ?_; (first | rfl | simp only [go_sem, reduceCtorEq, Nat.reduceEqDiff, Nat.reduceLT, Nat.reduceLeDiff, Nat.reduceAdd, Nat.reduceMul, Nat.reduceSub, Nat.reduceBEq, ↓reduceIte, ix, grC, one_max, b1, ap, ws, shut_col]); simp only [go_sem, Nat.reduceEqDiff, Nat.reduceLT, ↓reduceIte, b1, ap]) | refine k_of (by assumption) ?_ | refine tr_block ?_ | (refine tr_skip ?_; try simp only [ex_seq]))
        exact hK (i + 1, apK hw' k (clsRG p i), apH hw' k 38 12 (clsRG p i)) _ _ ⟨hlt, hN, Nat.le_trans hlw (apH_len _ _ _ _ _)⟩ ⟨⟨rfl, rfl, rfl, trivial⟩, Keep.of (eh := []) (ew := []) rfl (by rw [List.append_nil]), by simp only [lowF, colIs_low (enc := clsC) hN]; rfl, rfl, Nat.le_refl _, Nat.le_trans hlw (apH_len _ _ _ _ _)⟩ (by dsimp only; omega)
      · cases hf
    · have q1 : decide ((i : Int) < (p.grants.length : Nat)) = false := decide_eq_false (by omega)
      obtain rfl : i = p.grants.length := by omega
      have e1 : clsRG p p.grants.length = clausesR p := by unfold clsRG clausesR; rw [List.take_length]
      rw [e1] at hI ⊢
      repeat (first | refine tr_seq_k fun _ _ => ?_ | (refine tr_region ?_; simp only [go_sem, List.getElem?_toArray, reduceCtorEq, Nat.reduceEqDiff, Nat.reduceLT, ↓reduceIte, q1]) | refine k_of (by assumption) ?_)
      refine tr_cond rfl (fun ht => ?_) (fun hf => ?_)
      · cases ht
      · repeat (first | refine tr_seq_k fun _ _ => ?_ | (refine tr_region ?_; simp only [go_sem, Nat.reduceEqDiff, Nat.reduceLT, ↓reduceIte]) | refine k_of (by assumption) ?_ | (refine tr_exit ?_; try simp only [ex_seq_exit, ex_block_exit, ex_seq, ↓reduceIte]) | (refine tr_ret ?_; try simp only [ex_seq_ret, ex_block_ret]))
        refine (hQ _ _ [colA clsC k (clausesR p)] ?_ (fun m => ret_gen hI _ m)).2 <;> simp only [go_sem, Nat.reduceEqDiff, ↓reduceIte, Tryz.f14]
end Go.Proofs.YtinbfakpjnnagaaGreatDoor
namespace Go.Proofs.YtinbfakpjnnagaaGreatDoor
open Go.RowKit Go.Vs Go.Vs.Ab Go.Vs.Sm
set_option maxRecDepth 100000
set_option maxHeartbeats 4000000
theorem atomsR (p : Pol) : ((clausesR p).flatMap fun c => c.head :: c.body) = atomsF p := by
  unfold atomsF clausesR clausesF
  rw [List.flatMap_append, List.flatMap_append, List.flatMap_map, List.flatMap_map, List.flatMap_map]
  rfl
theorem clausesR_sz {p : Pol} (h : Lt13 p) : ∀ c ∈ clausesR p, c.body.length ≤ 10 := fun c hc => by
  rcases List.mem_append.1 hc with hc | hc
  · exact (cls_sz h c (List.mem_append_left _ hc)).2.2
  · obtain ⟨g, hg, rfl⟩ := List.mem_map.1 hc
    exact (cls_sz h (grCls g) (List.mem_append_right _ (List.mem_map.2 ⟨g, hg, rfl⟩))).2.2
theorem clausesR_len {p : Pol} (h : Lt13 p) : (clausesR p).length ≤ 140 := by
  have := h.rn
  have := h.gn
  unfold clausesR
  rw [List.length_append, List.length_map, List.length_map]
  omega
theorem r13clauses_sh {p : Pol} (h : Lt13 p) : Does Tryz.prog 14 [poA p] (fun m => (.c (slC clsC (clausesR p).isEmpty (clausesR p)), m)) :=
  (r13clauses_does p (by have := h.rn; omega) (by have := h.gn; omega) (fun r hr => by have := (h.rules r hr).2.2; omega) (fun g hg => by have := (h.grants g hg).2.2.2; omega)).shut
theorem r13atoms_does {p : Pol} (h : Lt13 p) : Does Tryz.prog 35 [poA p] (freshA atC 33 11 (atomsF p)) := by
  have cC := r13clauses_sh h
  have hsz := clausesR_sz h
  have hll := clausesR_len h
  rw [← atomsR]
  generalize clausesR p = C at *
  refine does_of' Tryz.func35 rfl (by kernel_rfl) rfl Tryz.ntmps35 rfl rfl fun Q hQ => ?_
  repeat (first | refine tr_seq_k fun _ _ => ?_ | (refine tr_region ?_; simp only [go_sem, reduceCtorEq, Nat.reduceEqDiff, Nat.reduceLT, Nat.reduceLeDiff, Nat.reduceAdd, ↓reduceIte]) | (refine call_of (cC) ?_ ?_; (first | rfl | simp only [go_sem, reduceCtorEq, Nat.reduceEqDiff, Nat.reduceLT, Nat.reduceLeDiff, Nat.reduceAdd, Nat.reduceMul, Nat.reduceSub, Nat.reduceBEq, ↓reduceIte, shut_col]); simp only [go_sem]) | refine k_of (by assumption) ?_ | refine tr_block ?_)
  refine tr_loop_k (σ := Nat) (fun k => [(3, colA atC 0 (atomsK C k)), (4, .c (slC clsC C.isEmpty C)), (5, iA k)]) (fun k => ⟨[⟨false, [.c (slC stC p.e1 p.prin), .c (slC prC p.e2 p.preds), .c (slC clC p.e3 p.clears), iA p.quota, iA p.budget, .c (slC ruC p.e4 p.rules), .c (slC grC p.e5 p.grants)]⟩], colH 33 11 (atomsK C k)⟩)
    (fun k => k ≤ C.length) (fun k => C.length - k) 0 (Nat.zero_le _) ⟨rfl, rfl, rfl, trivial⟩ rfl ?_
  rintro k hk K hK
  by_cases hlt : k < C.length
  · have q1 : decide ((k : Int) < (C.length : Nat)) = true := decide_eq_true (by omega)
    have ws := wrap_succ (show k ≤ 1000000000 by omega)
    have ix := idxCl (ex := C.isEmpty) hlt
    have on := atomsK_next hlt
    have tl := atomsK_len hsz k hk
    have hb := hsz _ (List.getElem_mem hlt)
    generalize C[k] = x at *
    have hA0 := fun hp => appA hp (atomsK C k) x.head (by omega)
    have hA1 := fun hp => appAs hp (atomsK C k ++ [x.head]) x.body x.ex (by rw [List.length_append, List.length_singleton]; omega)
    rw [← on] at hA1
    have hb1 := build1A x.head
    repeat (first | refine tr_seq_k fun _ _ => ?_ | (refine tr_region ?_; simp only [go_sem, List.getElem?_toArray, Nat.reduceEqDiff, Nat.reduceLT, ↓reduceIte, q1]) | refine k_of (by assumption) ?_)
    refine tr_cond rfl (fun ht => ?_) (fun hf => ?_)
    · repeat (first | refine tr_seq_k fun _ _ => ?_ | (refine tr_region ?_; simp only [go_sem, List.getElem?_toArray, reduceCtorEq, Nat.reduceEqDiff, Nat.reduceLT, Nat.reduceLeDiff, ↓reduceIte, ix, clsC, hb1, one_max, hA0, hA1, ws]) | refine k_of (by assumption) ?_ | refine tr_block ?_ | (refine tr_skip ?_; try simp only [ex_seq]))
      exact hK (k + 1) _ _ hlt ⟨⟨rfl, rfl, rfl, trivial⟩, Keep.of (eh := []) (ew := []) rfl (by rw [List.append_nil]), by simp only [lowF, low_col]; rfl, rfl, Nat.le_refl _, Nat.zero_le _⟩ (by omega)
    · cases hf
  · have q1 : decide ((k : Int) < (C.length : Nat)) = false := decide_eq_false (by omega)
    obtain rfl : k = C.length := by omega
    have e1 : atomsK C C.length = C.flatMap fun c => c.head :: c.body := by unfold atomsK; rw [List.take_length]
    rw [e1]
    repeat (first | refine tr_seq_k fun _ _ => ?_ | (refine tr_region ?_; simp only [go_sem, List.getElem?_toArray, Nat.reduceEqDiff, Nat.reduceLT, ↓reduceIte, q1]) | refine k_of (by assumption) ?_)
    refine tr_cond rfl (fun ht => ?_) (fun hf => ?_)
    · cases ht
    · repeat (first | refine tr_seq_k fun _ _ => ?_ | (refine tr_region ?_; simp only [go_sem, Nat.reduceEqDiff, Nat.reduceLT, ↓reduceIte]) | refine k_of (by assumption) ?_ | (refine tr_exit ?_; try simp only [ex_seq_exit, ex_block_exit, ex_seq, ↓reduceIte]) | (refine tr_ret ?_; try simp only [ex_seq_ret, ex_block_ret]))
      refine (hQ _ _ [colA atC 0 (C.flatMap fun c => c.head :: c.body)] ?_ (fun m => ret_col atC 33 11 _ _ m)).2 <;> simp only [go_sem, Nat.reduceEqDiff, ↓reduceIte, Tryz.f35]
/-! ### the forms -/
theorem formK_count (a : Atm) {k : Nat} (hk : k ≤ 4) : (formK a k).count = a.count := by
  have := (formK_rest a k hk).2.2
  unfold Atm.count
  rw [this]
theorem map_take_next' {A B : Type} (f : A → B) {l : List A} {i : Nat} (h : i < l.length) : (l.take (i + 1)).map f = (l.take i).map f ++ [f l[i]] := by
  rw [List.take_succ_eq_append_getElem h, List.map_append]
  rfl
theorem srtA_snoc (l : List Atm) (x : Atm) : srtA (l ++ [x]) = dm ltA (srtA l) [x] := by
  have O : Tot ltA := totK txA
  have e : [x] = cm ltA [x] := by simp [cm, cmpct]
  unfold srtA
  rw [srt_snoc]
  conv => rhs; rw [e]
  exact (dm_law O _ _ [x] (Nat.le_refl _) (srt_sorted O _ _ rfl) (List.pairwise_singleton _ _)).symm
theorem dm_old {lt : Atm → Atm → Bool} (O : Tot lt) {x : Atm} : ∀ {a : List Atm}, a.Pairwise (fun a b => lt a b = true) → (∃ y ∈ a, eqB lt x y = true) → dm lt a [x] = a
  | [], _, ⟨y, h, _⟩ => by cases h
  | y :: a, hp, ⟨z, hz, he⟩ => by
    obtain ⟨h1, h2⟩ := List.pairwise_cons.1 hp
    obtain ⟨e1, e2⟩ := eqB_iff.1 he
    rw [dm_cons]
    by_cases hyx : lt y x = true
    · rw [if_pos hyx]
      rcases List.mem_cons.1 hz with rfl | hz
      · rw [e2] at hyx; cases hyx
      · rw [dm_old O h2 ⟨z, hz, he⟩]
    · rw [if_neg hyx]
      by_cases hxy : lt x y = true
      · rcases List.mem_cons.1 hz with rfl | hz
        · rw [e1] at hxy; cases hxy
        · have h3 := h1 z hz
          have h4 : lt x z = true := by
            cases q : lt x z with
            | true => rfl
            | false =>
              have := O.t y z x (by rw [lt_asym O h3]; rfl) (by rw [q]; rfl)
              rw [hxy] at this
              cases this
          rw [h4] at e1; cases e1
      · rw [if_neg hxy, dm_right]
theorem srtA_fdist (L : List Atm) : srtA (fdist L) = srtA (L.map formA) := by
  have O : Tot ltA := totK txA
  have key : ∀ k, k ≤ L.length → srtA (fdist (L.take k)) = srtA ((L.take k).map formA) := fun k => by
    induction k with
    | zero => intro _; rfl
    | succ k ih =>
      intro hk
      have ih := ih (by omega)
      rw [fdist_next (by omega), map_take_next' formA (by omega)]
      unfold fmStep
      split
      · rename_i hm
        rw [srtA_snoc, ← ih]
        have hf := cm_facts O _ (srt ltA (fdist (L.take k))) rfl (srt_sorted O _ _ rfl)
        exact (dm_old O hf.1 (hf.2.2 _ (mem_srt _ _ rfl hm))).symm
      · rw [srtA_snoc, srtA_snoc, ih]
  have := key L.length (Nat.le_refl _)
  rwa [List.take_length] at this
theorem r13forms_does {p : Pol} (h : Lt13 p) : Does Tryz.prog 17 [poA p] (fun m => (.c (slC atC (formsF p).isEmpty (formsF p)), m)) := by
  have cC := (r13atoms_does h).shut
  have hsz := atomsF_sz h
  have hll := atomsF_len h
  have hR : formsF p = srtA ((atomsF p).map formA) := srtA_fdist _
  rw [hR]
  clear hR
  generalize atomsF p = L at *
  refine does_of' Tryz.func17 rfl (by kernel_rfl) rfl Tryz.ntmps17 rfl rfl fun Q hQ => ?_
  repeat (first | refine tr_seq_k fun _ _ => ?_ | (refine tr_region ?_; simp only [go_sem, reduceCtorEq, Nat.reduceEqDiff, Nat.reduceLT, Nat.reduceLeDiff, Nat.reduceAdd, ↓reduceIte]) | (refine call_of (cC) ?_ ?_; (first | rfl | simp only [go_sem, reduceCtorEq, Nat.reduceEqDiff, Nat.reduceLT, Nat.reduceLeDiff, Nat.reduceAdd, Nat.reduceMul, Nat.reduceSub, Nat.reduceBEq, ↓reduceIte, shut_col]); simp only [go_sem]) | refine k_of (by assumption) ?_ | refine tr_block ?_)
  refine tr_loop_k (σ := Nat) (fun k => [(3, colA atC 0 ((L.take k).map formA)), (4, .c (slC atC L.isEmpty L)), (5, iA k)]) (fun k => ⟨[⟨false, [.c (slC stC p.e1 p.prin), .c (slC prC p.e2 p.preds), .c (slC clC p.e3 p.clears), iA p.quota, iA p.budget, .c (slC ruC p.e4 p.rules), .c (slC grC p.e5 p.grants)]⟩], colH 33 11 ((L.take k).map formA)⟩)
    (fun k => k ≤ L.length) (fun k => L.length - k) 0 (Nat.zero_le _) ⟨rfl, rfl, rfl, trivial⟩ rfl ?_
  rintro i hi K hK
  by_cases hlt : i < L.length
  · have q1 : decide ((i : Int) < (L.length : Nat)) = true := decide_eq_true (by omega)
    have ws := wrap_succ (show i ≤ 1000000000 by omega)
    have ix := idxA12 (ex := L.isEmpty) hlt
    have on := map_take_next' formA hlt
    have tl : ((L.take i).map formA).length ≤ i := by rw [List.length_map, List.length_take]; omega
    generalize L[i] = a at *
    have h4 := a.count_le
    repeat (first | refine tr_seq_k fun _ _ => ?_ | (refine tr_region ?_; simp only [go_sem, List.getElem?_toArray, Nat.reduceEqDiff, Nat.reduceLT, ↓reduceIte, q1]) | refine k_of (by assumption) ?_)
    refine tr_cond rfl (fun ht => ?_) (fun hf => ?_)
    · repeat (first | refine tr_seq_k fun _ _ => ?_ | (refine tr_region ?_; simp only [go_sem, Nat.reduceEqDiff, Nat.reduceLT, ↓reduceIte]) | (refine tr_draw (id := 6) follows 17 [16, 17] [0, 1, 2, 3, 4, 5, 6, 7, 8, 9, 10, 11, 12, 13, 14, 15, 16, 17] (by kernel_rfl) ?_; simp only [go_sem, List.getElem?_toArray, reduceCtorEq, Nat.reduceEqDiff, Nat.reduceLT, Nat.reduceLeDiff, Nat.reduceAdd, Nat.reduceBEq, ↓reduceIte, Bool.true_or, Bool.false_or, ix, atC]) | refine k_of (by assumption) ?_ | refine tr_block ?_ | (refine tr_skip ?_; try simp only [ex_seq]))
      refine tr_loop_k (σ := Nat) (fun k => [(3, colA atC 0 ((L.take i).map formA)), (4, .c (slC atC L.isEmpty L)), (5, iA i), (6, .ptr 1 0), (7, iA k)]) (fun k => ⟨[⟨false, [.c (slC stC p.e1 p.prin), .c (slC prC p.e2 p.preds), .c (slC clC p.e3 p.clears), iA p.quota, iA p.budget, .c (slC ruC p.e4 p.rules), .c (slC grC p.e5 p.grants)]⟩, ⟨false, ([.c (.v (.string (formK a k).says)), .c (.v (.string (formK a k).pred)), .c (.v (.int .i64 (formK a k).n)), .c (.v (.bool (formK a k).a0.v)), .c (.v (.string (formK a k).a0.name)), .c (.v (.bool (formK a k).a1.v)), .c (.v (.string (formK a k).a1.name)), .c (.v (.bool (formK a k).a2.v)), .c (.v (.string (formK a k).a2.name)), .c (.v (.bool (formK a k).a3.v)), .c (.v (.string (formK a k).a3.name))] : List AV)⟩], colH 33 11 ((L.take i).map formA)⟩)
        (fun k => k ≤ a.count) (fun k => a.count - k) 0 (Nat.zero_le _) ⟨rfl, rfl, rfl, rfl, rfl, trivial⟩ rfl ?_
      rintro k hk K2 hK2
      have cK := count_does (formK a k)
      rw [formK_count a (by omega)] at cK
      by_cases hkl : k < a.count
      · have hk4 : k < 4 := by omega
        have q2 : decide ((k : Int) < (a.count : Nat)) = true := decide_eq_true (by omega)
        have ws2 := wrap_succ (show k ≤ 1000000000 by omega)
        have ci := digits_does hk4
        have vc := vcat hk4
        have hst := atSet (formK a k) hk4 (vt k)
        rw [show Atm.setArg (formK a k) k (vt k) = formK a (k + 1) from rfl] at hst
        simp only [vt] at hst
        repeat (first | refine tr_seq_k fun _ _ => ?_ | (refine tr_region ?_; simp only [go_sem, Nat.reduceEqDiff, Nat.reduceLT, Nat.reduceLeDiff, Nat.reduceAdd, ↓reduceIte]) | (refine call_of (cK) ?_ ?_; (first | rfl | simp only [go_sem, reduceCtorEq, Nat.reduceEqDiff, Nat.reduceLT, Nat.reduceLeDiff, Nat.reduceAdd, Nat.reduceMul, Nat.reduceSub, Nat.reduceBEq, ↓reduceIte, q2, shut_col]); simp only [go_sem, Nat.reduceEqDiff, Nat.reduceLT, ↓reduceIte, q2]) | refine k_of (by assumption) ?_)
        refine tr_cond rfl (fun ht => ?_) (fun hf => ?_)
        · repeat (first | refine tr_seq_k fun _ _ => ?_ | (refine tr_region ?_; simp only [go_sem, List.getElem?_toArray, reduceCtorEq, Nat.reduceEqDiff, Nat.reduceLT, ↓reduceIte, ws2]) | (refine call_of (ci) ?_ ?_; (first | rfl | simp only [go_sem, reduceCtorEq, Nat.reduceEqDiff, Nat.reduceLT, Nat.reduceLeDiff, Nat.reduceAdd, Nat.reduceMul, Nat.reduceSub, Nat.reduceBEq, ↓reduceIte, arrT hk4, vc, leN hk4, hst, ws2, shut_col]); simp only [go_sem, Nat.reduceEqDiff, Nat.reduceLT, Nat.reduceLeDiff, Nat.reduceAdd, ↓reduceIte, arrT hk4, vc, leN hk4, hst]) | refine k_of (by assumption) ?_ | refine tr_block ?_ | (refine tr_skip ?_; try simp only [ex_seq]))
          exact hK2 (k + 1) _ _ hkl ⟨⟨rfl, rfl, rfl, rfl, rfl, trivial⟩, Keep.refl _, by simp only [lowF, low_col]; rfl, rfl, Nat.le_refl _, Nat.le_refl _⟩ (by omega)
        · cases hf
      · have q2 : decide ((k : Int) < (a.count : Nat)) = false := decide_eq_false (by omega)
        obtain rfl : k = a.count := by omega
        have ap := fun hp => appA hp ((L.take i).map formA) (formA a) (by omega)
        rw [← on] at ap
        have b1 := build1A (formA a)
        rw [show formK a a.count = formA a from rfl] at cK ⊢
        repeat (first | refine tr_seq_k fun _ _ => ?_ | (refine tr_region ?_; simp only [go_sem, Nat.reduceEqDiff, Nat.reduceLT, Nat.reduceLeDiff, Nat.reduceAdd, ↓reduceIte]) | (refine call_of (cK) ?_ ?_; (first | rfl | simp only [go_sem, reduceCtorEq, Nat.reduceEqDiff, Nat.reduceLT, Nat.reduceLeDiff, Nat.reduceAdd, Nat.reduceMul, Nat.reduceSub, Nat.reduceBEq, ↓reduceIte, q2, shut_col]); simp only [go_sem, Nat.reduceEqDiff, Nat.reduceLT, ↓reduceIte, q2]) | refine k_of (by assumption) ?_)
        refine tr_cond rfl (fun ht => ?_) (fun hf => ?_)
        · cases ht
        · repeat (first | (refine tr_region ?_; simp only [go_sem, Nat.reduceEqDiff, Nat.reduceLT, Nat.reduceLeDiff, Nat.reduceAdd, ↓reduceIte, b1, one_max, ap, ws]) | refine k_of (by assumption) ?_ | (refine tr_exit ?_; try simp only [ex_seq_exit, ex_block_exit, ex_seq, ↓reduceIte]))
          exact hK (i + 1) _ _ hlt ⟨⟨rfl, rfl, rfl, trivial⟩, Keep.of (eh := [_]) (ew := []) rfl (by rw [List.append_nil]), by simp only [lowF, low_col]; rfl, rfl, Nat.le_refl _, Nat.zero_le _⟩ (by omega)
    · cases hf
  · have q1 : decide ((i : Int) < (L.length : Nat)) = false := decide_eq_false (by omega)
    obtain rfl : i = L.length := by omega
    rw [List.take_length]
    have hfs : ∀ x ∈ L.map formA, AtSz x := fun x hx => by
      obtain ⟨a, ha, rfl⟩ := List.mem_map.1 hx
      exact formA_sz (hsz a ha)
    have hlm : (L.map formA).length ≤ 1000000 := by rw [List.length_map]; omega
    by_cases h0 : L.map formA = []
    · rw [h0] at hfs hlm hQ ⊢
      have cS := (r8sorted_does 0 [] true (by simp) hlm hfs).shut
      repeat (first | refine tr_seq_k fun _ _ => ?_ | (refine tr_region ?_; simp only [go_sem, List.getElem?_toArray, Nat.reduceEqDiff, Nat.reduceLT, ↓reduceIte, q1]) | refine k_of (by assumption) ?_)
      refine tr_cond rfl (fun ht => ?_) (fun hf => ?_)
      · cases ht
      · repeat (first | refine tr_seq_k fun _ _ => ?_ | (refine tr_region ?_; simp only [go_sem, Nat.reduceEqDiff, Nat.reduceLT, ↓reduceIte]) | (refine call_of (cS) ?_ ?_; (first | rfl | simp only [go_sem, reduceCtorEq, Nat.reduceEqDiff, Nat.reduceLT, Nat.reduceLeDiff, Nat.reduceAdd, Nat.reduceMul, Nat.reduceSub, Nat.reduceBEq, ↓reduceIte, shut_col]); simp only [go_sem]) | refine k_of (by assumption) ?_ | (refine tr_exit ?_; try simp only [ex_seq_exit, ex_block_exit, ex_seq, ↓reduceIte]) | (refine tr_ret ?_; try simp only [ex_seq_ret, ex_block_ret]))
        refine (hQ _ _ [.c (slC atC (srtA []).isEmpty (srtA []))] ?_ (fun m => rfl)).2 <;> simp only [go_sem, Nat.reduceEqDiff, ↓reduceIte, Tryz.f17]
        rfl
    · have cS := (r8sorted_does (L.map formA).length (L.map formA) false (Nat.le_refl _) hlm hfs).shut
      rw [colA_ne atC 0 h0, colH_ne _ _ h0] at *
      repeat (first | refine tr_seq_k fun _ _ => ?_ | (refine tr_region ?_; simp only [go_sem, List.getElem?_toArray, Nat.reduceEqDiff, Nat.reduceLT, ↓reduceIte, q1]) | refine k_of (by assumption) ?_)
      refine tr_cond rfl (fun ht => ?_) (fun hf => ?_)
      · cases ht
      · repeat (first | refine tr_seq_k fun _ _ => ?_ | (refine tr_region ?_; simp only [go_sem, Nat.reduceEqDiff, Nat.reduceLT, ↓reduceIte]) | (refine call_of (cS) ?_ ?_; (first | rfl | simp only [go_sem, reduceCtorEq, Nat.reduceEqDiff, Nat.reduceLT, Nat.reduceLeDiff, Nat.reduceAdd, Nat.reduceMul, Nat.reduceSub, Nat.reduceBEq, ↓reduceIte, shut_col]); simp only [go_sem]) | refine k_of (by assumption) ?_ | (refine tr_exit ?_; try simp only [ex_seq_exit, ex_block_exit, ex_seq, ↓reduceIte]) | (refine tr_ret ?_; try simp only [ex_seq_ret, ex_block_ret]))
        refine (hQ _ _ [.c (slC atC (srtA (L.map formA)).isEmpty (srtA (L.map formA)))] ?_ (fun m => rfl)).2 <;> simp only [go_sem, Nat.reduceEqDiff, ↓reduceIte, Tryz.f17]
        rfl
end Go.Proofs.YtinbfakpjnnagaaGreatDoor
