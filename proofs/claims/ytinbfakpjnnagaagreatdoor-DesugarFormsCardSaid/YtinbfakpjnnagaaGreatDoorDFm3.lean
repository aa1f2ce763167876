/-
  Part 3 of the proof's own texts: general lemmas and contracts of functions, laid one behind the other.
-/
import Derived.Test.YtinbfakpjnnagaaGreatDoorDFm2
import Derived.Test.YtinbfakpjnnagaaGreatDoorDFDg
import Derived.Test.YtinbfakpjnnagaaGreatDoorDFSub
import Derived.Sort.Walk0
set_option linter.unusedSimpArgs false
set_option linter.unusedVariables false
namespace Go.Proofs.YtinbfakpjnnagaaGreatDoor
open Go.RowKit Go.Vs Go.Vs.Ab Go.Vs.Sm
set_option maxRecDepth 100000
set_option maxHeartbeats 40000000
def symT3 (lt : Atm → Atm → Bool) (f : Nat) (l : List Atm) (mid e b : Nat) : List Atm := if mid < e ∧ e < b then symL lt f l mid e b else l
def symT2 (lt : Atm → Atm → Bool) (f : Nat) (l : List Atm) (a b mid R e : Nat) : List Atm := symT3 lt f (if a < R ∧ R < mid then symL lt f l a R mid else l) mid e b
theorem ite_len {T : Type} {n : Nat} (c : Prop) [Decidable c] (x y : List T) (h1 : x.length = n) (h2 : y.length = n) : (if c then x else y).length = n := by split <;> assumption
theorem ite_mem {T : Type} {u : T} {Q : Prop} (c : Prop) [Decidable c] (x y : List T) (h1 : u ∈ x → Q) (h2 : u ∈ y → Q) : u ∈ (if c then x else y) → Q := by split <;> assumption
theorem symL_len {T : Type} {lt : T → T → Bool} : ∀ (f : Nat) (l : List T) (a m b : Nat), (symL lt f l a m b).length = l.length
  | 0, _, _, _, _ => rfl
  | f + 1, l, a, m, b => by
    unfold symL
    split
    · rw [upL_len]
    · split
      · rw [downL_len]
      · dsimp only
        have q1 : ∀ (c : Prop) [Decidable c] (p q r : Nat), (if c then rotL m p l q r else l).length = l.length := fun c _ p q r => ite_len c _ _ (rotL_len _ _ _ _) rfl
        refine ite_len _ _ _ ?_ ?_
        · rw [symL_len f]
          exact ite_len _ _ _ (by rw [symL_len f]; exact q1 _ _ _ _) (q1 _ _ _ _)
        · exact ite_len _ _ _ (by rw [symL_len f]; exact q1 _ _ _ _) (q1 _ _ _ _)
theorem symL_mem {T : Type} {lt : T → T → Bool} {x : T} : ∀ (f : Nat) (l : List T) (a m b : Nat), x ∈ symL lt f l a m b → x ∈ l
  | 0, _, _, _, _, h => h
  | f + 1, l, a, m, b, h => by
    unfold symL at h
    split at h
    · exact upL_mem _ h
    · split at h
      · exact downL_mem _ h
      · dsimp only at h
        have q1 : ∀ (c : Prop) [Decidable c] (p q r : Nat), x ∈ (if c then rotL m p l q r else l) → x ∈ l := fun c _ p q r => ite_mem c _ _ (fun h => rotL_mem _ _ _ _ h) (fun h => h)
        refine ite_mem _ _ _ (fun h => ?_) (fun h => ?_) h
        · exact ite_mem _ _ _ (fun h => q1 _ _ _ _ (symL_mem f _ _ _ _ h)) (fun h => q1 _ _ _ _ h) (symL_mem f _ _ _ _ h)
        · exact ite_mem _ _ _ (fun h => q1 _ _ _ _ (symL_mem f _ _ _ _ h)) (fun h => q1 _ _ _ _ h) h
theorem symC (f : Nat) (ih : ∀ (l : List Atm) (a m b : Nat) (hw : List Hw), a < m → m < b → b ≤ l.length → l.length ≤ 1000000 → b - a ≤ f → (∀ x ∈ l, AtSz x) → GivesW Tryz.prog 93 [.lsl 0 0 l.length 11, iA a, iA m, iA b, cmpF] ⟨[⟨false, blC atC l⟩], hw⟩ (.tup []) ⟨[⟨false, blC atC (symL ltA f l a m b)⟩], hw⟩)
    (l : List Atm) (a m b : Nat) (hw : List Hw) (ham : a < m) (hmb : m < b) (hbl : b ≤ l.length) (hl : l.length ≤ 1000000) (hf1 : b - a ≤ f + 1) (hsz : ∀ x ∈ l, AtSz x) (h1 : ¬ m - a = 1) (h2 : ¬ b - m = 1) : GivesW Tryz.prog 93 [.lsl 0 0 l.length 11, iA a, iA m, iA b, cmpF] ⟨[⟨false, blC atC l⟩], hw⟩ (.tup []) ⟨[⟨false, blC atC (symL ltA (f + 1) l a m b)⟩], hw⟩ := by
  obtain ⟨T, hT0⟩ : ∃ T, T = symL ltA (f + 1) l a m b := ⟨_, rfl⟩
  rw [← hT0]
  unfold symL at hT0
  rw [if_neg h1, if_neg h2] at hT0
  have cu := cvU (a + b) (by omega)
  have sh := shO (a + b)
  have ci := cvI ((a + b) / 2) (by omega)
  have hm1 : 2 * ((a + b) / 2) ≤ a + b ∧ a + b < 2 * ((a + b) / 2) + 2 := by omega
  generalize (a + b) / 2 = mid at *
  dsimp only at hT0
  have w3 := wrap_addN (show a + b ≤ 1000000000 by omega)
  have w4 := wrap_addN (show mid + m ≤ 1000000000 by omega)
  have w1 := wrap_subN (show a ≤ m by omega) (by omega)
  have e0 : decide (((m - a : Nat) : Int) = 1) = false := decide_eq_false (by omega)
  have e0' : (((m - a : Nat) : Int) == 1) = false := by rw [beq_eq_false_iff_ne]; omega
  have w2 := wrap_subN (show m ≤ b by omega) (by omega)
  have e1 : decide (((b - m : Nat) : Int) = 1) = false := decide_eq_false (by omega)
  have e1' : (((b - m : Nat) : Int) == 1) = false := by rw [beq_eq_false_iff_ne]; omega
  obtain ⟨nn, hnn⟩ : ∃ nn, nn = mid + m := ⟨_, rfl⟩
  rw [← hnn] at hT0 w4
  have w6 := wrap_pre (show 0 < nn by omega) (by omega)
  by_cases hmm : mid < m
  · rw [if_pos hmm, if_pos hmm] at hT0
    obtain ⟨R, hR⟩ : ∃ R, R = bs (fun c => !ltAt ltA l (nn - 1 - c) c) (mid - (nn - b) + 1) (nn - b) mid := ⟨_, rfl⟩
    have hTT : ∀ S, S = R → T = symT2 ltA f (if S < m ∧ m < nn - S then rotL m (nn - S - S) l (m - S) (nn - S - m) else l) a b mid S (nn - S) := fun S hS => by rw [hS, hR]; exact hT0
    clear hT0
    have q0 : decide ((m : Int) > (mid : Int)) = true := decide_eq_true (by omega)
    have w5 := wrap_subN (show b ≤ nn by omega) (by omega)
    obtain ⟨s0, hs0⟩ : ∃ s0, s0 = nn - b := ⟨_, rfl⟩
    rw [← hs0] at hR w5
    refine givesW_of' Tryz.func93 rfl (by kernel_rfl) Tryz.ntmps93 rfl rfl fun Q hQ => ?_
    repeat (first | refine tr_seq_k fun _ _ => ?_ | (refine tr_region ?_; simp only [go_sem, reduceCtorEq, Nat.reduceEqDiff, Nat.reduceLT, Nat.reduceAdd, ↓reduceIte, w1, e0']) | refine k_of (by assumption) ?_)
    refine tr_cond rfl (fun ht => ?_) (fun hf => ?_)
    · cases ht
    · repeat (first | refine tr_seq_k fun _ _ => ?_ | (refine tr_region ?_; simp only [go_sem, reduceCtorEq, Nat.reduceEqDiff, Nat.reduceLT, ↓reduceIte, w2, e1']) | refine k_of (by assumption) ?_ | (refine tr_skip ?_; try simp only [ex_seq]))
      refine tr_cond rfl (fun ht => ?_) (fun hf => ?_)
      · cases ht
      · repeat (first | refine tr_seq_k fun _ _ => ?_ | (refine tr_region ?_; simp only [go_sem, reduceCtorEq, Nat.reduceEqDiff, Nat.reduceLT, ↓reduceIte, w3, cu, sh, ci, w4, q0]) | refine k_of (by assumption) ?_ | (refine tr_skip ?_; try simp only [ex_seq]))
        refine tr_cond rfl (fun ht => ?_) (fun hf => ?_)
        · repeat (first | refine tr_seq_k fun _ _ => ?_ | (refine tr_region ?_; simp only [go_sem, reduceCtorEq, Nat.reduceEqDiff, Nat.reduceLT, ↓reduceIte, w5, w6]) | refine k_of (by assumption) ?_ | refine tr_block ?_)
          refine tr_loop_k (σ := Nat × Nat × Nat) (fun q => [(0, .lsl 0 0 l.length 11), (1, iA a), (2, iA m), (3, iA b), (4, cmpF), (18, iA mid), (19, iA nn), (22, iA ((nn - 1 : Nat) : Int)), (20, iA q.2.1), (21, iA q.2.2)]) (fun q => ⟨[⟨false, blC atC l⟩], hw⟩)
            (fun q => R = bs (fun c => !ltAt ltA l (nn - 1 - c) c) (q.1 + 1) q.2.1 q.2.2 ∧ s0 ≤ q.2.1 ∧ q.2.1 ≤ q.2.2 ∧ q.2.2 ≤ mid ∧ q.2.2 - q.2.1 ≤ q.1) (fun q => q.2.2 - q.2.1) (mid - s0, s0, mid) ⟨hR, Nat.le_refl _, by dsimp only; omega, Nat.le_refl _, Nat.le_refl _⟩ ⟨rfl, rfl, rfl, rfl, rfl, rfl, rfl, rfl, rfl, rfl, trivial⟩ rfl ?_
          rintro ⟨g, i, j⟩ ⟨hRR, hmi, hij, hjb, hg⟩ K hK
          dsimp only at hRR hmi hij hjb hg ⊢
          by_cases hlt : i < j
          · have q1 : decide ((i : Int) < (j : Int)) = true := decide_eq_true (by omega)
            obtain ⟨g, rfl⟩ : ∃ z, g = z + 1 := ⟨g - 1, by omega⟩
            have w2 := wrap_addN (show i + j ≤ 1000000000 by omega)
            have w2b : i + j ≤ 1000000000 := by omega
            have w2c : (i + j) / 2 ≤ 1000000000 := by omega
            have hR2 := bs_hit hRR hlt
            have hh1 : i ≤ (i + j) / 2 := by omega
            have hh2 : (i + j) / 2 < j := by omega
            have sh := shO (i + j)
            have cu := cvU _ w2b
            have ci := cvI _ w2c
            generalize (i + j) / 2 = h at *
            have ws := wrap_succ (show h ≤ 1000000000 by omega)
            have wp := wrap_subN (show h ≤ nn - 1 by omega) (by omega)
            have hx : nn - 1 - h < l.length := by omega
            have hy : h < l.length := by omega
            have cC := cmpA_does l[nn - 1 - h] l[h] (hsz _ (List.getElem_mem hx)) (hsz _ (List.getElem_mem hy))
            have hlt2 := cmpA_lt l[nn - 1 - h] l[h]
            have d1 := drLA hx
            have d2 := drLA hy
            rw [ltAt_eq hx hy] at hR2
            cases hz : ltA l[nn - 1 - h] l[h] with
            | true =>
              rw [hz] at hlt2 hR2
              rw [if_neg (by decide)] at hR2
              repeat (first | refine tr_seq_k fun _ _ => ?_ | (refine tr_region ?_; simp only [go_sem, reduceCtorEq, Nat.reduceEqDiff, Nat.reduceLT, ↓reduceIte, q1]) | refine k_of (by assumption) ?_)
              refine tr_cond rfl (fun ht => ?_) (fun hf => ?_)
              · repeat (first | refine tr_seq_k fun _ _ => ?_ | (refine tr_region ?_; simp only [go_sem, reduceCtorEq, Nat.reduceEqDiff, Nat.reduceLT, ↓reduceIte, w2, cu, ci, sh]) | (refine tr_draw (id := 35) follows 10000 [11] [0, 1, 2, 3, 4, 5, 6, 7, 8, 9, 10, 11, 12, 13] (by kernel_rfl) ?_; simp only [go_sem, List.getElem?_toArray, reduceCtorEq, Nat.reduceEqDiff, Nat.reduceLT, ↓reduceIte, wp, ixLA hx, ixLA hy, d1, d2, fitLA hx, fitLA hy]) | (refine call_of (cC) ?_ ?_; (first | rfl | simp only [go_sem, reduceCtorEq, Nat.reduceEqDiff, Nat.reduceLT, Nat.reduceLeDiff, Nat.reduceAdd, Nat.reduceMul, Nat.reduceSub, Nat.reduceBEq, ↓reduceIte, w2, cu, ci, sh, wp, ixLA hx, ixLA hy, d1, d2, fitLA hx, fitLA hy, hlt2, shut_col]); simp only [go_sem, reduceCtorEq, Nat.reduceEqDiff, Nat.reduceLT, ↓reduceIte, Bool.true_or, hlt2]) | refine k_of (by assumption) ?_ | refine tr_block ?_ | (refine tr_skip ?_; try simp only [ex_seq]))
                refine tr_cond rfl (fun ht => ?_) (fun hf => ?_)
                · cases ht
                · repeat ((refine tr_region ?_; simp only [go_sem, reduceCtorEq, Nat.reduceEqDiff, Nat.reduceLT, ↓reduceIte]))
                  exact hK (g, i, h) _ _ ⟨hR2, by dsimp only; omega, by dsimp only; omega, by dsimp only; omega, by dsimp only; omega⟩ ⟨⟨rfl, rfl, rfl, rfl, rfl, rfl, rfl, rfl, rfl, rfl, trivial⟩, Keep.refl _, rfl, by simp only [lowB, lows_blC]; rfl, Nat.le_refl _, Nat.le_refl _⟩ (by dsimp only; omega)
              · cases hf
            | false =>
              rw [hz] at hlt2 hR2
              rw [if_pos (by decide)] at hR2
              repeat (first | refine tr_seq_k fun _ _ => ?_ | (refine tr_region ?_; simp only [go_sem, reduceCtorEq, Nat.reduceEqDiff, Nat.reduceLT, ↓reduceIte, q1]) | refine k_of (by assumption) ?_)
              refine tr_cond rfl (fun ht => ?_) (fun hf => ?_)
              · repeat (first | refine tr_seq_k fun _ _ => ?_ | (refine tr_region ?_; simp only [go_sem, reduceCtorEq, Nat.reduceEqDiff, Nat.reduceLT, ↓reduceIte, w2, cu, ci, sh]) | (refine tr_draw (id := 35) follows 10000 [11] [0, 1, 2, 3, 4, 5, 6, 7, 8, 9, 10, 11, 12, 13] (by kernel_rfl) ?_; simp only [go_sem, List.getElem?_toArray, reduceCtorEq, Nat.reduceEqDiff, Nat.reduceLT, ↓reduceIte, wp, ixLA hx, ixLA hy, d1, d2, fitLA hx, fitLA hy]) | (refine call_of (cC) ?_ ?_; (first | rfl | simp only [go_sem, reduceCtorEq, Nat.reduceEqDiff, Nat.reduceLT, Nat.reduceLeDiff, Nat.reduceAdd, Nat.reduceMul, Nat.reduceSub, Nat.reduceBEq, ↓reduceIte, w2, cu, ci, sh, wp, ixLA hx, ixLA hy, d1, d2, fitLA hx, fitLA hy, hlt2, shut_col]); simp only [go_sem, reduceCtorEq, Nat.reduceEqDiff, Nat.reduceLT, ↓reduceIte, Bool.true_or, hlt2]) | refine k_of (by assumption) ?_ | refine tr_block ?_ | (refine tr_skip ?_; try simp only [ex_seq]))
                refine tr_cond rfl (fun ht => ?_) (fun hf => ?_)
                · repeat ((refine tr_region ?_; simp only [go_sem, reduceCtorEq, Nat.reduceEqDiff, Nat.reduceLT, ↓reduceIte, ws]))
                  exact hK (g, h + 1, j) _ _ ⟨hR2, by dsimp only; omega, by dsimp only; omega, by dsimp only; omega, by dsimp only; omega⟩ ⟨⟨rfl, rfl, rfl, rfl, rfl, rfl, rfl, rfl, rfl, rfl, trivial⟩, Keep.refl _, rfl, by simp only [lowB, lows_blC]; rfl, Nat.le_refl _, Nat.le_refl _⟩ (by dsimp only; omega)
                · cases hf
              · cases hf
          · have q1 : decide ((i : Int) < (j : Int)) = false := decide_eq_false (by omega)
            obtain rfl : R = i := bs_end hRR hlt
            repeat (first | refine tr_seq_k fun _ _ => ?_ | (refine tr_region ?_; simp only [go_sem, reduceCtorEq, Nat.reduceEqDiff, Nat.reduceLT, ↓reduceIte, q1]) | refine k_of (by assumption) ?_)
            refine tr_cond rfl (fun ht => ?_) (fun hf => ?_)
            · cases ht
            · have hRm : s0 ≤ R := hmi
              have hRr : R ≤ mid := by omega
              have w7 := wrap_subN (show R ≤ nn by omega) (by omega)
              have hT := hTT R rfl
              obtain ⟨e, he⟩ : ∃ e, e = nn - R := ⟨_, rfl⟩
              rw [← he] at w7 hT
              by_cases c1 : R < m
              · by_cases c2 : m < e
                · have d1 : decide ((R : Int) < (m : Int)) = true := decide_eq_true (by omega)
                  have d2 : decide ((m : Int) < (e : Int)) = true := decide_eq_true (by omega)
                  rw [if_pos ⟨c1, c2⟩] at hT
                  have cS1 := rot_gives l R m e hw c1 c2 (by omega) (by omega)
                  obtain ⟨l1, hl1⟩ : ∃ l1, l1 = rotL m (e - R) l (m - R) (e - m) := ⟨_, rfl⟩
                  rw [← hl1] at cS1 hT
                  have hl1n : l1.length = l.length := by rw [hl1, rotL_len]
                  have hl1s : ∀ x ∈ l1, AtSz x := fun x hx => hsz x (rotL_mem _ _ _ _ (hl1 ▸ hx))
                  clear hl1
                  repeat (first | refine tr_seq_k fun _ _ => ?_ | (refine tr_region ?_; simp only [go_sem, List.getElem?_toArray, reduceCtorEq, Nat.reduceEqDiff, Nat.reduceLT, ↓reduceIte, w7, d1, d2]) | refine k_of (by assumption) ?_ | (refine tr_exit ?_; try simp only [ex_seq_exit, ex_block_exit, ex_seq, ↓reduceIte]))
                  refine tr_cond rfl (fun ht => ?_) (fun hf => ?_)
                  · clear d1 d2
                    unfold symT2 at hT
                    by_cases c1 : a < R
                    · by_cases c2 : R < mid
                      · have d1 : decide ((a : Int) < (R : Int)) = true := decide_eq_true (by omega)
                        have d2 : decide ((R : Int) < (mid : Int)) = true := decide_eq_true (by omega)
                        rw [if_pos ⟨c1, c2⟩] at hT
                        have cS2 := ih l1 a R mid hw c1 c2 (by omega) (by omega) (by omega) hl1s
                        obtain ⟨l2, hl2⟩ : ∃ l2, l2 = symL ltA f l1 a R mid := ⟨_, rfl⟩
                        rw [← hl2] at cS2 hT
                        have hl2n : l2.length = l.length := by rw [hl2, symL_len]; exact hl1n
                        have hl2s : ∀ x ∈ l2, AtSz x := fun x hx => hl1s x (symL_mem _ _ _ _ _ (hl2 ▸ hx))
                        rw [hl1n] at cS2
                        clear hl2
                        repeat (first | refine tr_seq_k fun _ _ => ?_ | (refine tr_region ?_; simp only [go_sem, List.getElem?_toArray, reduceCtorEq, Nat.reduceEqDiff, Nat.reduceLT, ↓reduceIte, d1, d2]) | (refine call_givesW (cS1) ?_; (try dsimp only); (try simp only [go_sem, reduceCtorEq, Nat.reduceEqDiff, Nat.reduceLT, Nat.reduceLeDiff, Nat.reduceAdd, Nat.reduceMul, Nat.reduceSub, Nat.reduceBEq, ↓reduceIte, d1, d2])) | refine k_of (by assumption) ?_)
                        refine tr_cond rfl (fun ht => ?_) (fun hf => ?_)
                        · clear d1 d2
                          unfold symT3 at hT
                          by_cases c1 : mid < e
                          · by_cases c2 : e < b
                            · have d1 : decide ((mid : Int) < (e : Int)) = true := decide_eq_true (by omega)
                              have d2 : decide ((e : Int) < (b : Int)) = true := decide_eq_true (by omega)
                              rw [if_pos ⟨c1, c2⟩] at hT
                              have cS3 := ih l2 mid e b hw c1 c2 (by omega) (by omega) (by omega) hl2s
                              obtain ⟨l3, hl3⟩ : ∃ l3, l3 = symL ltA f l2 mid e b := ⟨_, rfl⟩
                              rw [← hl3] at cS3 hT
                              have hl3n : l3.length = l.length := by rw [hl3, symL_len]; exact hl2n
                              have hl3s : ∀ x ∈ l3, AtSz x := fun x hx => hl2s x (symL_mem _ _ _ _ _ (hl3 ▸ hx))
                              rw [hl2n] at cS3
                              clear hl3
                              repeat (first | refine tr_seq_k fun _ _ => ?_ | (refine tr_region ?_; simp only [go_sem, List.getElem?_toArray, reduceCtorEq, Nat.reduceEqDiff, Nat.reduceLT, ↓reduceIte, d1, d2]) | (refine call_givesW (cS2) ?_; (try dsimp only); (try simp only [go_sem, reduceCtorEq, Nat.reduceEqDiff, Nat.reduceLT, Nat.reduceLeDiff, Nat.reduceAdd, Nat.reduceMul, Nat.reduceSub, Nat.reduceBEq, ↓reduceIte, d1, d2])) | refine k_of (by assumption) ?_)
                              refine tr_cond rfl (fun ht => ?_) (fun hf => ?_)
                              · clear d1 d2
                                repeat (first | (refine tr_region ?_; simp only [go_sem, reduceCtorEq, Nat.reduceEqDiff, Nat.reduceLT, ↓reduceIte]) | (refine call_givesW (cS3) ?_; (try dsimp only); (try simp only [go_sem, reduceCtorEq, Nat.reduceEqDiff, Nat.reduceLT, Nat.reduceLeDiff, Nat.reduceAdd, Nat.reduceMul, Nat.reduceSub, Nat.reduceBEq, ↓reduceIte])))
                                exact (hQ _ _ [] rfl rfl (by rw [hT])).1
                              · cases hf
                            · have d1 : decide ((mid : Int) < (e : Int)) = true := decide_eq_true (by omega)
                              have d2 : decide ((e : Int) < (b : Int)) = false := decide_eq_false (by omega)
                              rw [if_neg (fun h => c2 h.2)] at hT
                              repeat (first | refine tr_seq_k fun _ _ => ?_ | (refine tr_region ?_; simp only [go_sem, List.getElem?_toArray, reduceCtorEq, Nat.reduceEqDiff, Nat.reduceLT, ↓reduceIte, d1, d2]) | (refine call_givesW (cS2) ?_; (try dsimp only); (try simp only [go_sem, reduceCtorEq, Nat.reduceEqDiff, Nat.reduceLT, Nat.reduceLeDiff, Nat.reduceAdd, Nat.reduceMul, Nat.reduceSub, Nat.reduceBEq, ↓reduceIte, d1, d2])) | refine k_of (by assumption) ?_)
                              refine tr_cond rfl (fun ht => ?_) (fun hf => ?_)
                              · cases ht
                              · clear d1 d2
                                repeat ((refine tr_skip ?_; try simp only [ex_seq, ex_block]))
                                exact (hQ _ _ [] rfl rfl (by rw [hT])).1
                          · have d1 : decide ((mid : Int) < (e : Int)) = false := decide_eq_false (by omega)
                            rw [if_neg (fun h => c1 h.1)] at hT
                            repeat (first | refine tr_seq_k fun _ _ => ?_ | (refine tr_region ?_; simp only [go_sem, List.getElem?_toArray, reduceCtorEq, Nat.reduceEqDiff, Nat.reduceLT, ↓reduceIte, d1]) | (refine call_givesW (cS2) ?_; (try dsimp only); (try simp only [go_sem, reduceCtorEq, Nat.reduceEqDiff, Nat.reduceLT, Nat.reduceLeDiff, Nat.reduceAdd, Nat.reduceMul, Nat.reduceSub, Nat.reduceBEq, ↓reduceIte, d1])) | refine k_of (by assumption) ?_)
                            refine tr_cond rfl (fun ht => ?_) (fun hf => ?_)
                            · cases ht
                            · clear d1
                              repeat ((refine tr_skip ?_; try simp only [ex_seq, ex_block]))
                              exact (hQ _ _ [] rfl rfl (by rw [hT])).1
                        · cases hf
                      · have d1 : decide ((a : Int) < (R : Int)) = true := decide_eq_true (by omega)
                        have d2 : decide ((R : Int) < (mid : Int)) = false := decide_eq_false (by omega)
                        rw [if_neg (fun h => c2 h.2)] at hT
                        repeat (first | refine tr_seq_k fun _ _ => ?_ | (refine tr_region ?_; simp only [go_sem, List.getElem?_toArray, reduceCtorEq, Nat.reduceEqDiff, Nat.reduceLT, ↓reduceIte, d1, d2]) | (refine call_givesW (cS1) ?_; (try dsimp only); (try simp only [go_sem, reduceCtorEq, Nat.reduceEqDiff, Nat.reduceLT, Nat.reduceLeDiff, Nat.reduceAdd, Nat.reduceMul, Nat.reduceSub, Nat.reduceBEq, ↓reduceIte, d1, d2])) | refine k_of (by assumption) ?_)
                        refine tr_cond rfl (fun ht => ?_) (fun hf => ?_)
                        · cases ht
                        · clear d1 d2
                          unfold symT3 at hT
                          by_cases c1 : mid < e
                          · by_cases c2 : e < b
                            · have d1 : decide ((mid : Int) < (e : Int)) = true := decide_eq_true (by omega)
                              have d2 : decide ((e : Int) < (b : Int)) = true := decide_eq_true (by omega)
                              rw [if_pos ⟨c1, c2⟩] at hT
                              have cS3 := ih l1 mid e b hw c1 c2 (by omega) (by omega) (by omega) hl1s
                              obtain ⟨l3, hl3⟩ : ∃ l3, l3 = symL ltA f l1 mid e b := ⟨_, rfl⟩
                              rw [← hl3] at cS3 hT
                              have hl3n : l3.length = l.length := by rw [hl3, symL_len]; exact hl1n
                              have hl3s : ∀ x ∈ l3, AtSz x := fun x hx => hl1s x (symL_mem _ _ _ _ _ (hl3 ▸ hx))
                              rw [hl1n] at cS3
                              clear hl3
                              repeat (first | refine tr_seq_k fun _ _ => ?_ | (refine tr_region ?_; simp only [go_sem, List.getElem?_toArray, reduceCtorEq, Nat.reduceEqDiff, Nat.reduceLT, ↓reduceIte, d1, d2]) | refine k_of (by assumption) ?_ | (refine tr_skip ?_; try simp only [ex_seq]))
                              refine tr_cond rfl (fun ht => ?_) (fun hf => ?_)
                              · clear d1 d2
                                repeat (first | (refine tr_region ?_; simp only [go_sem, reduceCtorEq, Nat.reduceEqDiff, Nat.reduceLT, ↓reduceIte]) | (refine call_givesW (cS3) ?_; (try dsimp only); (try simp only [go_sem, reduceCtorEq, Nat.reduceEqDiff, Nat.reduceLT, Nat.reduceLeDiff, Nat.reduceAdd, Nat.reduceMul, Nat.reduceSub, Nat.reduceBEq, ↓reduceIte])))
                                exact (hQ _ _ [] rfl rfl (by rw [hT])).1
                              · cases hf
                            · have d1 : decide ((mid : Int) < (e : Int)) = true := decide_eq_true (by omega)
                              have d2 : decide ((e : Int) < (b : Int)) = false := decide_eq_false (by omega)
                              rw [if_neg (fun h => c2 h.2)] at hT
                              repeat (first | refine tr_seq_k fun _ _ => ?_ | (refine tr_region ?_; simp only [go_sem, List.getElem?_toArray, reduceCtorEq, Nat.reduceEqDiff, Nat.reduceLT, ↓reduceIte, d1, d2]) | refine k_of (by assumption) ?_ | (refine tr_skip ?_; try simp only [ex_seq]))
                              refine tr_cond rfl (fun ht => ?_) (fun hf => ?_)
                              · cases ht
                              · clear d1 d2
                                repeat ((refine tr_skip ?_; try simp only [ex_seq, ex_block]))
                                exact (hQ _ _ [] rfl rfl (by rw [hT])).1
                          · have d1 : decide ((mid : Int) < (e : Int)) = false := decide_eq_false (by omega)
                            rw [if_neg (fun h => c1 h.1)] at hT
                            repeat (first | refine tr_seq_k fun _ _ => ?_ | (refine tr_region ?_; simp only [go_sem, List.getElem?_toArray, reduceCtorEq, Nat.reduceEqDiff, Nat.reduceLT, ↓reduceIte, d1]) | refine k_of (by assumption) ?_ | (refine tr_skip ?_; try simp only [ex_seq]))
                            refine tr_cond rfl (fun ht => ?_) (fun hf => ?_)
                            · cases ht
                            · clear d1
                              repeat ((refine tr_skip ?_; try simp only [ex_seq, ex_block]))
                              exact (hQ _ _ [] rfl rfl (by rw [hT])).1
                    · have d1 : decide ((a : Int) < (R : Int)) = false := decide_eq_false (by omega)
                      rw [if_neg (fun h => c1 h.1)] at hT
                      repeat (first | refine tr_seq_k fun _ _ => ?_ | (refine tr_region ?_; simp only [go_sem, List.getElem?_toArray, reduceCtorEq, Nat.reduceEqDiff, Nat.reduceLT, ↓reduceIte, d1]) | (refine call_givesW (cS1) ?_; (try dsimp only); (try simp only [go_sem, reduceCtorEq, Nat.reduceEqDiff, Nat.reduceLT, Nat.reduceLeDiff, Nat.reduceAdd, Nat.reduceMul, Nat.reduceSub, Nat.reduceBEq, ↓reduceIte, d1])) | refine k_of (by assumption) ?_)
                      refine tr_cond rfl (fun ht => ?_) (fun hf => ?_)
                      · cases ht
                      · clear d1
                        unfold symT3 at hT
                        by_cases c1 : mid < e
                        · by_cases c2 : e < b
                          · have d1 : decide ((mid : Int) < (e : Int)) = true := decide_eq_true (by omega)
                            have d2 : decide ((e : Int) < (b : Int)) = true := decide_eq_true (by omega)
                            rw [if_pos ⟨c1, c2⟩] at hT
                            have cS3 := ih l1 mid e b hw c1 c2 (by omega) (by omega) (by omega) hl1s
                            obtain ⟨l3, hl3⟩ : ∃ l3, l3 = symL ltA f l1 mid e b := ⟨_, rfl⟩
                            rw [← hl3] at cS3 hT
                            have hl3n : l3.length = l.length := by rw [hl3, symL_len]; exact hl1n
                            have hl3s : ∀ x ∈ l3, AtSz x := fun x hx => hl1s x (symL_mem _ _ _ _ _ (hl3 ▸ hx))
                            rw [hl1n] at cS3
                            clear hl3
                            repeat (first | refine tr_seq_k fun _ _ => ?_ | (refine tr_region ?_; simp only [go_sem, List.getElem?_toArray, reduceCtorEq, Nat.reduceEqDiff, Nat.reduceLT, ↓reduceIte, d1, d2]) | refine k_of (by assumption) ?_ | (refine tr_skip ?_; try simp only [ex_seq]))
                            refine tr_cond rfl (fun ht => ?_) (fun hf => ?_)
                            · clear d1 d2
                              repeat (first | (refine tr_region ?_; simp only [go_sem, reduceCtorEq, Nat.reduceEqDiff, Nat.reduceLT, ↓reduceIte]) | (refine call_givesW (cS3) ?_; (try dsimp only); (try simp only [go_sem, reduceCtorEq, Nat.reduceEqDiff, Nat.reduceLT, Nat.reduceLeDiff, Nat.reduceAdd, Nat.reduceMul, Nat.reduceSub, Nat.reduceBEq, ↓reduceIte])))
                              exact (hQ _ _ [] rfl rfl (by rw [hT])).1
                            · cases hf
                          · have d1 : decide ((mid : Int) < (e : Int)) = true := decide_eq_true (by omega)
                            have d2 : decide ((e : Int) < (b : Int)) = false := decide_eq_false (by omega)
                            rw [if_neg (fun h => c2 h.2)] at hT
                            repeat (first | refine tr_seq_k fun _ _ => ?_ | (refine tr_region ?_; simp only [go_sem, List.getElem?_toArray, reduceCtorEq, Nat.reduceEqDiff, Nat.reduceLT, ↓reduceIte, d1, d2]) | refine k_of (by assumption) ?_ | (refine tr_skip ?_; try simp only [ex_seq]))
                            refine tr_cond rfl (fun ht => ?_) (fun hf => ?_)
                            · cases ht
                            · clear d1 d2
                              repeat ((refine tr_skip ?_; try simp only [ex_seq, ex_block]))
                              exact (hQ _ _ [] rfl rfl (by rw [hT])).1
                        · have d1 : decide ((mid : Int) < (e : Int)) = false := decide_eq_false (by omega)
                          rw [if_neg (fun h => c1 h.1)] at hT
                          repeat (first | refine tr_seq_k fun _ _ => ?_ | (refine tr_region ?_; simp only [go_sem, List.getElem?_toArray, reduceCtorEq, Nat.reduceEqDiff, Nat.reduceLT, ↓reduceIte, d1]) | refine k_of (by assumption) ?_ | (refine tr_skip ?_; try simp only [ex_seq]))
                          refine tr_cond rfl (fun ht => ?_) (fun hf => ?_)
                          · cases ht
                          · clear d1
                            repeat ((refine tr_skip ?_; try simp only [ex_seq, ex_block]))
                            exact (hQ _ _ [] rfl rfl (by rw [hT])).1
                  · cases hf
                · have d1 : decide ((R : Int) < (m : Int)) = true := decide_eq_true (by omega)
                  have d2 : decide ((m : Int) < (e : Int)) = false := decide_eq_false (by omega)
                  rw [if_neg (fun h => c2 h.2)] at hT
                  repeat (first | refine tr_seq_k fun _ _ => ?_ | (refine tr_region ?_; simp only [go_sem, List.getElem?_toArray, reduceCtorEq, Nat.reduceEqDiff, Nat.reduceLT, ↓reduceIte, w7, d1, d2]) | refine k_of (by assumption) ?_ | (refine tr_exit ?_; try simp only [ex_seq_exit, ex_block_exit, ex_seq, ↓reduceIte]))
                  refine tr_cond rfl (fun ht => ?_) (fun hf => ?_)
                  · cases ht
                  · clear d1 d2
                    unfold symT2 at hT
                    by_cases c1 : a < R
                    · by_cases c2 : R < mid
                      · have d1 : decide ((a : Int) < (R : Int)) = true := decide_eq_true (by omega)
                        have d2 : decide ((R : Int) < (mid : Int)) = true := decide_eq_true (by omega)
                        rw [if_pos ⟨c1, c2⟩] at hT
                        have cS2 := ih l a R mid hw c1 c2 (by omega) (by omega) (by omega) hsz
                        obtain ⟨l2, hl2⟩ : ∃ l2, l2 = symL ltA f l a R mid := ⟨_, rfl⟩
                        rw [← hl2] at cS2 hT
                        have hl2n : l2.length = l.length := by rw [hl2, symL_len]
                        have hl2s : ∀ x ∈ l2, AtSz x := fun x hx => hsz x (symL_mem _ _ _ _ _ (hl2 ▸ hx))
                        clear hl2
                        repeat (first | refine tr_seq_k fun _ _ => ?_ | (refine tr_region ?_; simp only [go_sem, List.getElem?_toArray, reduceCtorEq, Nat.reduceEqDiff, Nat.reduceLT, ↓reduceIte, d1, d2]) | refine k_of (by assumption) ?_ | (refine tr_skip ?_; try simp only [ex_seq]))
                        refine tr_cond rfl (fun ht => ?_) (fun hf => ?_)
                        · clear d1 d2
                          unfold symT3 at hT
                          by_cases c1 : mid < e
                          · by_cases c2 : e < b
                            · have d1 : decide ((mid : Int) < (e : Int)) = true := decide_eq_true (by omega)
                              have d2 : decide ((e : Int) < (b : Int)) = true := decide_eq_true (by omega)
                              rw [if_pos ⟨c1, c2⟩] at hT
                              have cS3 := ih l2 mid e b hw c1 c2 (by omega) (by omega) (by omega) hl2s
                              obtain ⟨l3, hl3⟩ : ∃ l3, l3 = symL ltA f l2 mid e b := ⟨_, rfl⟩
                              rw [← hl3] at cS3 hT
                              have hl3n : l3.length = l.length := by rw [hl3, symL_len]; exact hl2n
                              have hl3s : ∀ x ∈ l3, AtSz x := fun x hx => hl2s x (symL_mem _ _ _ _ _ (hl3 ▸ hx))
                              rw [hl2n] at cS3
                              clear hl3
                              repeat (first | refine tr_seq_k fun _ _ => ?_ | (refine tr_region ?_; simp only [go_sem, List.getElem?_toArray, reduceCtorEq, Nat.reduceEqDiff, Nat.reduceLT, ↓reduceIte, d1, d2]) | (refine call_givesW (cS2) ?_; (try dsimp only); (try simp only [go_sem, reduceCtorEq, Nat.reduceEqDiff, Nat.reduceLT, Nat.reduceLeDiff, Nat.reduceAdd, Nat.reduceMul, Nat.reduceSub, Nat.reduceBEq, ↓reduceIte, d1, d2])) | refine k_of (by assumption) ?_)
                              refine tr_cond rfl (fun ht => ?_) (fun hf => ?_)
                              · clear d1 d2
                                repeat (first | (refine tr_region ?_; simp only [go_sem, reduceCtorEq, Nat.reduceEqDiff, Nat.reduceLT, ↓reduceIte]) | (refine call_givesW (cS3) ?_; (try dsimp only); (try simp only [go_sem, reduceCtorEq, Nat.reduceEqDiff, Nat.reduceLT, Nat.reduceLeDiff, Nat.reduceAdd, Nat.reduceMul, Nat.reduceSub, Nat.reduceBEq, ↓reduceIte])))
                                exact (hQ _ _ [] rfl rfl (by rw [hT])).1
                              · cases hf
                            · have d1 : decide ((mid : Int) < (e : Int)) = true := decide_eq_true (by omega)
                              have d2 : decide ((e : Int) < (b : Int)) = false := decide_eq_false (by omega)
                              rw [if_neg (fun h => c2 h.2)] at hT
                              repeat (first | refine tr_seq_k fun _ _ => ?_ | (refine tr_region ?_; simp only [go_sem, List.getElem?_toArray, reduceCtorEq, Nat.reduceEqDiff, Nat.reduceLT, ↓reduceIte, d1, d2]) | (refine call_givesW (cS2) ?_; (try dsimp only); (try simp only [go_sem, reduceCtorEq, Nat.reduceEqDiff, Nat.reduceLT, Nat.reduceLeDiff, Nat.reduceAdd, Nat.reduceMul, Nat.reduceSub, Nat.reduceBEq, ↓reduceIte, d1, d2])) | refine k_of (by assumption) ?_)
                              refine tr_cond rfl (fun ht => ?_) (fun hf => ?_)
                              · cases ht
                              · clear d1 d2
                                repeat ((refine tr_skip ?_; try simp only [ex_seq, ex_block]))
                                exact (hQ _ _ [] rfl rfl (by rw [hT])).1
                          · have d1 : decide ((mid : Int) < (e : Int)) = false := decide_eq_false (by omega)
                            rw [if_neg (fun h => c1 h.1)] at hT
                            repeat (first | refine tr_seq_k fun _ _ => ?_ | (refine tr_region ?_; simp only [go_sem, List.getElem?_toArray, reduceCtorEq, Nat.reduceEqDiff, Nat.reduceLT, ↓reduceIte, d1]) | (refine call_givesW (cS2) ?_; (try dsimp only); (try simp only [go_sem, reduceCtorEq, Nat.reduceEqDiff, Nat.reduceLT, Nat.reduceLeDiff, Nat.reduceAdd, Nat.reduceMul, Nat.reduceSub, Nat.reduceBEq, ↓reduceIte, d1])) | refine k_of (by assumption) ?_)
                            refine tr_cond rfl (fun ht => ?_) (fun hf => ?_)
                            · cases ht
                            · clear d1
                              repeat ((refine tr_skip ?_; try simp only [ex_seq, ex_block]))
                              exact (hQ _ _ [] rfl rfl (by rw [hT])).1
                        · cases hf
                      · have d1 : decide ((a : Int) < (R : Int)) = true := decide_eq_true (by omega)
                        have d2 : decide ((R : Int) < (mid : Int)) = false := decide_eq_false (by omega)
                        rw [if_neg (fun h => c2 h.2)] at hT
                        repeat (first | refine tr_seq_k fun _ _ => ?_ | (refine tr_region ?_; simp only [go_sem, List.getElem?_toArray, reduceCtorEq, Nat.reduceEqDiff, Nat.reduceLT, ↓reduceIte, d1, d2]) | refine k_of (by assumption) ?_ | (refine tr_skip ?_; try simp only [ex_seq]))
                        refine tr_cond rfl (fun ht => ?_) (fun hf => ?_)
                        · cases ht
                        · clear d1 d2
                          unfold symT3 at hT
                          by_cases c1 : mid < e
                          · by_cases c2 : e < b
                            · have d1 : decide ((mid : Int) < (e : Int)) = true := decide_eq_true (by omega)
                              have d2 : decide ((e : Int) < (b : Int)) = true := decide_eq_true (by omega)
                              rw [if_pos ⟨c1, c2⟩] at hT
                              have cS3 := ih l mid e b hw c1 c2 (by omega) (by omega) (by omega) hsz
                              obtain ⟨l3, hl3⟩ : ∃ l3, l3 = symL ltA f l mid e b := ⟨_, rfl⟩
                              rw [← hl3] at cS3 hT
                              have hl3n : l3.length = l.length := by rw [hl3, symL_len]
                              have hl3s : ∀ x ∈ l3, AtSz x := fun x hx => hsz x (symL_mem _ _ _ _ _ (hl3 ▸ hx))
                              clear hl3
                              repeat (first | refine tr_seq_k fun _ _ => ?_ | (refine tr_region ?_; simp only [go_sem, List.getElem?_toArray, reduceCtorEq, Nat.reduceEqDiff, Nat.reduceLT, ↓reduceIte, d1, d2]) | refine k_of (by assumption) ?_ | (refine tr_skip ?_; try simp only [ex_seq]))
                              refine tr_cond rfl (fun ht => ?_) (fun hf => ?_)
                              · clear d1 d2
                                repeat (first | (refine tr_region ?_; simp only [go_sem, reduceCtorEq, Nat.reduceEqDiff, Nat.reduceLT, ↓reduceIte]) | (refine call_givesW (cS3) ?_; (try dsimp only); (try simp only [go_sem, reduceCtorEq, Nat.reduceEqDiff, Nat.reduceLT, Nat.reduceLeDiff, Nat.reduceAdd, Nat.reduceMul, Nat.reduceSub, Nat.reduceBEq, ↓reduceIte])))
                                exact (hQ _ _ [] rfl rfl (by rw [hT])).1
                              · cases hf
                            · have d1 : decide ((mid : Int) < (e : Int)) = true := decide_eq_true (by omega)
                              have d2 : decide ((e : Int) < (b : Int)) = false := decide_eq_false (by omega)
                              rw [if_neg (fun h => c2 h.2)] at hT
                              repeat (first | refine tr_seq_k fun _ _ => ?_ | (refine tr_region ?_; simp only [go_sem, List.getElem?_toArray, reduceCtorEq, Nat.reduceEqDiff, Nat.reduceLT, ↓reduceIte, d1, d2]) | refine k_of (by assumption) ?_ | (refine tr_skip ?_; try simp only [ex_seq]))
                              refine tr_cond rfl (fun ht => ?_) (fun hf => ?_)
                              · cases ht
                              · clear d1 d2
                                repeat ((refine tr_skip ?_; try simp only [ex_seq, ex_block]))
                                exact (hQ _ _ [] rfl rfl (by rw [hT])).1
                          · have d1 : decide ((mid : Int) < (e : Int)) = false := decide_eq_false (by omega)
                            rw [if_neg (fun h => c1 h.1)] at hT
                            repeat (first | refine tr_seq_k fun _ _ => ?_ | (refine tr_region ?_; simp only [go_sem, List.getElem?_toArray, reduceCtorEq, Nat.reduceEqDiff, Nat.reduceLT, ↓reduceIte, d1]) | refine k_of (by assumption) ?_ | (refine tr_skip ?_; try simp only [ex_seq]))
                            refine tr_cond rfl (fun ht => ?_) (fun hf => ?_)
                            · cases ht
                            · clear d1
                              repeat ((refine tr_skip ?_; try simp only [ex_seq, ex_block]))
                              exact (hQ _ _ [] rfl rfl (by rw [hT])).1
                    · have d1 : decide ((a : Int) < (R : Int)) = false := decide_eq_false (by omega)
                      rw [if_neg (fun h => c1 h.1)] at hT
                      repeat (first | refine tr_seq_k fun _ _ => ?_ | (refine tr_region ?_; simp only [go_sem, List.getElem?_toArray, reduceCtorEq, Nat.reduceEqDiff, Nat.reduceLT, ↓reduceIte, d1]) | refine k_of (by assumption) ?_ | (refine tr_skip ?_; try simp only [ex_seq]))
                      refine tr_cond rfl (fun ht => ?_) (fun hf => ?_)
                      · cases ht
                      · clear d1
                        unfold symT3 at hT
                        by_cases c1 : mid < e
                        · by_cases c2 : e < b
                          · have d1 : decide ((mid : Int) < (e : Int)) = true := decide_eq_true (by omega)
                            have d2 : decide ((e : Int) < (b : Int)) = true := decide_eq_true (by omega)
                            rw [if_pos ⟨c1, c2⟩] at hT
                            have cS3 := ih l mid e b hw c1 c2 (by omega) (by omega) (by omega) hsz
                            obtain ⟨l3, hl3⟩ : ∃ l3, l3 = symL ltA f l mid e b := ⟨_, rfl⟩
                            rw [← hl3] at cS3 hT
                            have hl3n : l3.length = l.length := by rw [hl3, symL_len]
                            have hl3s : ∀ x ∈ l3, AtSz x := fun x hx => hsz x (symL_mem _ _ _ _ _ (hl3 ▸ hx))
                            clear hl3
                            repeat (first | refine tr_seq_k fun _ _ => ?_ | (refine tr_region ?_; simp only [go_sem, List.getElem?_toArray, reduceCtorEq, Nat.reduceEqDiff, Nat.reduceLT, ↓reduceIte, d1, d2]) | refine k_of (by assumption) ?_ | (refine tr_skip ?_; try simp only [ex_seq]))
                            refine tr_cond rfl (fun ht => ?_) (fun hf => ?_)
                            · clear d1 d2
                              repeat (first | (refine tr_region ?_; simp only [go_sem, reduceCtorEq, Nat.reduceEqDiff, Nat.reduceLT, ↓reduceIte]) | (refine call_givesW (cS3) ?_; (try dsimp only); (try simp only [go_sem, reduceCtorEq, Nat.reduceEqDiff, Nat.reduceLT, Nat.reduceLeDiff, Nat.reduceAdd, Nat.reduceMul, Nat.reduceSub, Nat.reduceBEq, ↓reduceIte])))
                              exact (hQ _ _ [] rfl rfl (by rw [hT])).1
                            · cases hf
                          · have d1 : decide ((mid : Int) < (e : Int)) = true := decide_eq_true (by omega)
                            have d2 : decide ((e : Int) < (b : Int)) = false := decide_eq_false (by omega)
                            rw [if_neg (fun h => c2 h.2)] at hT
                            repeat (first | refine tr_seq_k fun _ _ => ?_ | (refine tr_region ?_; simp only [go_sem, List.getElem?_toArray, reduceCtorEq, Nat.reduceEqDiff, Nat.reduceLT, ↓reduceIte, d1, d2]) | refine k_of (by assumption) ?_ | (refine tr_skip ?_; try simp only [ex_seq]))
                            refine tr_cond rfl (fun ht => ?_) (fun hf => ?_)
                            · cases ht
                            · clear d1 d2
                              repeat ((refine tr_skip ?_; try simp only [ex_seq, ex_block]))
                              exact (hQ _ _ [] rfl rfl (by rw [hT])).1
                        · have d1 : decide ((mid : Int) < (e : Int)) = false := decide_eq_false (by omega)
                          rw [if_neg (fun h => c1 h.1)] at hT
                          repeat (first | refine tr_seq_k fun _ _ => ?_ | (refine tr_region ?_; simp only [go_sem, List.getElem?_toArray, reduceCtorEq, Nat.reduceEqDiff, Nat.reduceLT, ↓reduceIte, d1]) | refine k_of (by assumption) ?_ | (refine tr_skip ?_; try simp only [ex_seq]))
                          refine tr_cond rfl (fun ht => ?_) (fun hf => ?_)
                          · cases ht
                          · clear d1
                            repeat ((refine tr_skip ?_; try simp only [ex_seq, ex_block]))
                            exact (hQ _ _ [] rfl rfl (by rw [hT])).1
              · have d1 : decide ((R : Int) < (m : Int)) = false := decide_eq_false (by omega)
                rw [if_neg (fun h => c1 h.1)] at hT
                repeat (first | refine tr_seq_k fun _ _ => ?_ | (refine tr_region ?_; simp only [go_sem, List.getElem?_toArray, reduceCtorEq, Nat.reduceEqDiff, Nat.reduceLT, ↓reduceIte, w7, d1]) | refine k_of (by assumption) ?_ | (refine tr_exit ?_; try simp only [ex_seq_exit, ex_block_exit, ex_seq, ↓reduceIte]))
                refine tr_cond rfl (fun ht => ?_) (fun hf => ?_)
                · cases ht
                · clear d1
                  unfold symT2 at hT
                  by_cases c1 : a < R
                  · by_cases c2 : R < mid
                    · have d1 : decide ((a : Int) < (R : Int)) = true := decide_eq_true (by omega)
                      have d2 : decide ((R : Int) < (mid : Int)) = true := decide_eq_true (by omega)
                      rw [if_pos ⟨c1, c2⟩] at hT
                      have cS2 := ih l a R mid hw c1 c2 (by omega) (by omega) (by omega) hsz
                      obtain ⟨l2, hl2⟩ : ∃ l2, l2 = symL ltA f l a R mid := ⟨_, rfl⟩
                      rw [← hl2] at cS2 hT
                      have hl2n : l2.length = l.length := by rw [hl2, symL_len]
                      have hl2s : ∀ x ∈ l2, AtSz x := fun x hx => hsz x (symL_mem _ _ _ _ _ (hl2 ▸ hx))
                      clear hl2
                      repeat (first | refine tr_seq_k fun _ _ => ?_ | (refine tr_region ?_; simp only [go_sem, List.getElem?_toArray, reduceCtorEq, Nat.reduceEqDiff, Nat.reduceLT, ↓reduceIte, d1, d2]) | refine k_of (by assumption) ?_ | (refine tr_skip ?_; try simp only [ex_seq]))
                      refine tr_cond rfl (fun ht => ?_) (fun hf => ?_)
                      · clear d1 d2
                        unfold symT3 at hT
                        by_cases c1 : mid < e
                        · by_cases c2 : e < b
                          · have d1 : decide ((mid : Int) < (e : Int)) = true := decide_eq_true (by omega)
                            have d2 : decide ((e : Int) < (b : Int)) = true := decide_eq_true (by omega)
                            rw [if_pos ⟨c1, c2⟩] at hT
                            have cS3 := ih l2 mid e b hw c1 c2 (by omega) (by omega) (by omega) hl2s
                            obtain ⟨l3, hl3⟩ : ∃ l3, l3 = symL ltA f l2 mid e b := ⟨_, rfl⟩
                            rw [← hl3] at cS3 hT
                            have hl3n : l3.length = l.length := by rw [hl3, symL_len]; exact hl2n
                            have hl3s : ∀ x ∈ l3, AtSz x := fun x hx => hl2s x (symL_mem _ _ _ _ _ (hl3 ▸ hx))
                            rw [hl2n] at cS3
                            clear hl3
                            repeat (first | refine tr_seq_k fun _ _ => ?_ | (refine tr_region ?_; simp only [go_sem, List.getElem?_toArray, reduceCtorEq, Nat.reduceEqDiff, Nat.reduceLT, ↓reduceIte, d1, d2]) | (refine call_givesW (cS2) ?_; (try dsimp only); (try simp only [go_sem, reduceCtorEq, Nat.reduceEqDiff, Nat.reduceLT, Nat.reduceLeDiff, Nat.reduceAdd, Nat.reduceMul, Nat.reduceSub, Nat.reduceBEq, ↓reduceIte, d1, d2])) | refine k_of (by assumption) ?_)
                            refine tr_cond rfl (fun ht => ?_) (fun hf => ?_)
                            · clear d1 d2
                              repeat (first | (refine tr_region ?_; simp only [go_sem, reduceCtorEq, Nat.reduceEqDiff, Nat.reduceLT, ↓reduceIte]) | (refine call_givesW (cS3) ?_; (try dsimp only); (try simp only [go_sem, reduceCtorEq, Nat.reduceEqDiff, Nat.reduceLT, Nat.reduceLeDiff, Nat.reduceAdd, Nat.reduceMul, Nat.reduceSub, Nat.reduceBEq, ↓reduceIte])))
                              exact (hQ _ _ [] rfl rfl (by rw [hT])).1
                            · cases hf
                          · have d1 : decide ((mid : Int) < (e : Int)) = true := decide_eq_true (by omega)
                            have d2 : decide ((e : Int) < (b : Int)) = false := decide_eq_false (by omega)
                            rw [if_neg (fun h => c2 h.2)] at hT
                            repeat (first | refine tr_seq_k fun _ _ => ?_ | (refine tr_region ?_; simp only [go_sem, List.getElem?_toArray, reduceCtorEq, Nat.reduceEqDiff, Nat.reduceLT, ↓reduceIte, d1, d2]) | (refine call_givesW (cS2) ?_; (try dsimp only); (try simp only [go_sem, reduceCtorEq, Nat.reduceEqDiff, Nat.reduceLT, Nat.reduceLeDiff, Nat.reduceAdd, Nat.reduceMul, Nat.reduceSub, Nat.reduceBEq, ↓reduceIte, d1, d2])) | refine k_of (by assumption) ?_)
                            refine tr_cond rfl (fun ht => ?_) (fun hf => ?_)
                            · cases ht
                            · clear d1 d2
                              repeat ((refine tr_skip ?_; try simp only [ex_seq, ex_block]))
                              exact (hQ _ _ [] rfl rfl (by rw [hT])).1
                        · have d1 : decide ((mid : Int) < (e : Int)) = false := decide_eq_false (by omega)
                          rw [if_neg (fun h => c1 h.1)] at hT
                          repeat (first | refine tr_seq_k fun _ _ => ?_ | (refine tr_region ?_; simp only [go_sem, List.getElem?_toArray, reduceCtorEq, Nat.reduceEqDiff, Nat.reduceLT, ↓reduceIte, d1]) | (refine call_givesW (cS2) ?_; (try dsimp only); (try simp only [go_sem, reduceCtorEq, Nat.reduceEqDiff, Nat.reduceLT, Nat.reduceLeDiff, Nat.reduceAdd, Nat.reduceMul, Nat.reduceSub, Nat.reduceBEq, ↓reduceIte, d1])) | refine k_of (by assumption) ?_)
                          refine tr_cond rfl (fun ht => ?_) (fun hf => ?_)
                          · cases ht
                          · clear d1
                            repeat ((refine tr_skip ?_; try simp only [ex_seq, ex_block]))
                            exact (hQ _ _ [] rfl rfl (by rw [hT])).1
                      · cases hf
                    · have d1 : decide ((a : Int) < (R : Int)) = true := decide_eq_true (by omega)
                      have d2 : decide ((R : Int) < (mid : Int)) = false := decide_eq_false (by omega)
                      rw [if_neg (fun h => c2 h.2)] at hT
                      repeat (first | refine tr_seq_k fun _ _ => ?_ | (refine tr_region ?_; simp only [go_sem, List.getElem?_toArray, reduceCtorEq, Nat.reduceEqDiff, Nat.reduceLT, ↓reduceIte, d1, d2]) | refine k_of (by assumption) ?_ | (refine tr_skip ?_; try simp only [ex_seq]))
                      refine tr_cond rfl (fun ht => ?_) (fun hf => ?_)
                      · cases ht
                      · clear d1 d2
                        unfold symT3 at hT
                        by_cases c1 : mid < e
                        · by_cases c2 : e < b
                          · have d1 : decide ((mid : Int) < (e : Int)) = true := decide_eq_true (by omega)
                            have d2 : decide ((e : Int) < (b : Int)) = true := decide_eq_true (by omega)
                            rw [if_pos ⟨c1, c2⟩] at hT
                            have cS3 := ih l mid e b hw c1 c2 (by omega) (by omega) (by omega) hsz
                            obtain ⟨l3, hl3⟩ : ∃ l3, l3 = symL ltA f l mid e b := ⟨_, rfl⟩
                            rw [← hl3] at cS3 hT
                            have hl3n : l3.length = l.length := by rw [hl3, symL_len]
                            have hl3s : ∀ x ∈ l3, AtSz x := fun x hx => hsz x (symL_mem _ _ _ _ _ (hl3 ▸ hx))
                            clear hl3
                            repeat (first | refine tr_seq_k fun _ _ => ?_ | (refine tr_region ?_; simp only [go_sem, List.getElem?_toArray, reduceCtorEq, Nat.reduceEqDiff, Nat.reduceLT, ↓reduceIte, d1, d2]) | refine k_of (by assumption) ?_ | (refine tr_skip ?_; try simp only [ex_seq]))
                            refine tr_cond rfl (fun ht => ?_) (fun hf => ?_)
                            · clear d1 d2
                              repeat (first | (refine tr_region ?_; simp only [go_sem, reduceCtorEq, Nat.reduceEqDiff, Nat.reduceLT, ↓reduceIte]) | (refine call_givesW (cS3) ?_; (try dsimp only); (try simp only [go_sem, reduceCtorEq, Nat.reduceEqDiff, Nat.reduceLT, Nat.reduceLeDiff, Nat.reduceAdd, Nat.reduceMul, Nat.reduceSub, Nat.reduceBEq, ↓reduceIte])))
                              exact (hQ _ _ [] rfl rfl (by rw [hT])).1
                            · cases hf
                          · have d1 : decide ((mid : Int) < (e : Int)) = true := decide_eq_true (by omega)
                            have d2 : decide ((e : Int) < (b : Int)) = false := decide_eq_false (by omega)
                            rw [if_neg (fun h => c2 h.2)] at hT
                            repeat (first | refine tr_seq_k fun _ _ => ?_ | (refine tr_region ?_; simp only [go_sem, List.getElem?_toArray, reduceCtorEq, Nat.reduceEqDiff, Nat.reduceLT, ↓reduceIte, d1, d2]) | refine k_of (by assumption) ?_ | (refine tr_skip ?_; try simp only [ex_seq]))
                            refine tr_cond rfl (fun ht => ?_) (fun hf => ?_)
                            · cases ht
                            · clear d1 d2
                              repeat ((refine tr_skip ?_; try simp only [ex_seq, ex_block]))
                              exact (hQ _ _ [] rfl rfl (by rw [hT])).1
                        · have d1 : decide ((mid : Int) < (e : Int)) = false := decide_eq_false (by omega)
                          rw [if_neg (fun h => c1 h.1)] at hT
                          repeat (first | refine tr_seq_k fun _ _ => ?_ | (refine tr_region ?_; simp only [go_sem, List.getElem?_toArray, reduceCtorEq, Nat.reduceEqDiff, Nat.reduceLT, ↓reduceIte, d1]) | refine k_of (by assumption) ?_ | (refine tr_skip ?_; try simp only [ex_seq]))
                          refine tr_cond rfl (fun ht => ?_) (fun hf => ?_)
                          · cases ht
                          · clear d1
                            repeat ((refine tr_skip ?_; try simp only [ex_seq, ex_block]))
                            exact (hQ _ _ [] rfl rfl (by rw [hT])).1
                  · have d1 : decide ((a : Int) < (R : Int)) = false := decide_eq_false (by omega)
                    rw [if_neg (fun h => c1 h.1)] at hT
                    repeat (first | refine tr_seq_k fun _ _ => ?_ | (refine tr_region ?_; simp only [go_sem, List.getElem?_toArray, reduceCtorEq, Nat.reduceEqDiff, Nat.reduceLT, ↓reduceIte, d1]) | refine k_of (by assumption) ?_ | (refine tr_skip ?_; try simp only [ex_seq]))
                    refine tr_cond rfl (fun ht => ?_) (fun hf => ?_)
                    · cases ht
                    · clear d1
                      unfold symT3 at hT
                      by_cases c1 : mid < e
                      · by_cases c2 : e < b
                        · have d1 : decide ((mid : Int) < (e : Int)) = true := decide_eq_true (by omega)
                          have d2 : decide ((e : Int) < (b : Int)) = true := decide_eq_true (by omega)
                          rw [if_pos ⟨c1, c2⟩] at hT
                          have cS3 := ih l mid e b hw c1 c2 (by omega) (by omega) (by omega) hsz
                          obtain ⟨l3, hl3⟩ : ∃ l3, l3 = symL ltA f l mid e b := ⟨_, rfl⟩
                          rw [← hl3] at cS3 hT
                          have hl3n : l3.length = l.length := by rw [hl3, symL_len]
                          have hl3s : ∀ x ∈ l3, AtSz x := fun x hx => hsz x (symL_mem _ _ _ _ _ (hl3 ▸ hx))
                          clear hl3
                          repeat (first | refine tr_seq_k fun _ _ => ?_ | (refine tr_region ?_; simp only [go_sem, List.getElem?_toArray, reduceCtorEq, Nat.reduceEqDiff, Nat.reduceLT, ↓reduceIte, d1, d2]) | refine k_of (by assumption) ?_ | (refine tr_skip ?_; try simp only [ex_seq]))
                          refine tr_cond rfl (fun ht => ?_) (fun hf => ?_)
                          · clear d1 d2
                            repeat (first | (refine tr_region ?_; simp only [go_sem, reduceCtorEq, Nat.reduceEqDiff, Nat.reduceLT, ↓reduceIte]) | (refine call_givesW (cS3) ?_; (try dsimp only); (try simp only [go_sem, reduceCtorEq, Nat.reduceEqDiff, Nat.reduceLT, Nat.reduceLeDiff, Nat.reduceAdd, Nat.reduceMul, Nat.reduceSub, Nat.reduceBEq, ↓reduceIte])))
                            exact (hQ _ _ [] rfl rfl (by rw [hT])).1
                          · cases hf
                        · have d1 : decide ((mid : Int) < (e : Int)) = true := decide_eq_true (by omega)
                          have d2 : decide ((e : Int) < (b : Int)) = false := decide_eq_false (by omega)
                          rw [if_neg (fun h => c2 h.2)] at hT
                          repeat (first | refine tr_seq_k fun _ _ => ?_ | (refine tr_region ?_; simp only [go_sem, List.getElem?_toArray, reduceCtorEq, Nat.reduceEqDiff, Nat.reduceLT, ↓reduceIte, d1, d2]) | refine k_of (by assumption) ?_ | (refine tr_skip ?_; try simp only [ex_seq]))
                          refine tr_cond rfl (fun ht => ?_) (fun hf => ?_)
                          · cases ht
                          · clear d1 d2
                            repeat ((refine tr_skip ?_; try simp only [ex_seq, ex_block]))
                            exact (hQ _ _ [] rfl rfl (by rw [hT])).1
                      · have d1 : decide ((mid : Int) < (e : Int)) = false := decide_eq_false (by omega)
                        rw [if_neg (fun h => c1 h.1)] at hT
                        repeat (first | refine tr_seq_k fun _ _ => ?_ | (refine tr_region ?_; simp only [go_sem, List.getElem?_toArray, reduceCtorEq, Nat.reduceEqDiff, Nat.reduceLT, ↓reduceIte, d1]) | refine k_of (by assumption) ?_ | (refine tr_skip ?_; try simp only [ex_seq]))
                        refine tr_cond rfl (fun ht => ?_) (fun hf => ?_)
                        · cases ht
                        · clear d1
                          repeat ((refine tr_skip ?_; try simp only [ex_seq, ex_block]))
                          exact (hQ _ _ [] rfl rfl (by rw [hT])).1
        · cases hf
  · rw [if_neg hmm, if_neg hmm] at hT0
    obtain ⟨R, hR⟩ : ∃ R, R = bs (fun c => !ltAt ltA l (nn - 1 - c) c) (m - a + 1) a m := ⟨_, rfl⟩
    have hTT : ∀ S, S = R → T = symT2 ltA f (if S < m ∧ m < nn - S then rotL m (nn - S - S) l (m - S) (nn - S - m) else l) a b mid S (nn - S) := fun S hS => by rw [hS, hR]; exact hT0
    clear hT0
    have q0 : decide ((m : Int) > (mid : Int)) = false := decide_eq_false (by omega)
    refine givesW_of' Tryz.func93 rfl (by kernel_rfl) Tryz.ntmps93 rfl rfl fun Q hQ => ?_
    repeat (first | refine tr_seq_k fun _ _ => ?_ | (refine tr_region ?_; simp only [go_sem, reduceCtorEq, Nat.reduceEqDiff, Nat.reduceLT, Nat.reduceAdd, ↓reduceIte, w1, e0']) | refine k_of (by assumption) ?_)
    refine tr_cond rfl (fun ht => ?_) (fun hf => ?_)
    · cases ht
    · repeat (first | refine tr_seq_k fun _ _ => ?_ | (refine tr_region ?_; simp only [go_sem, reduceCtorEq, Nat.reduceEqDiff, Nat.reduceLT, ↓reduceIte, w2, e1']) | refine k_of (by assumption) ?_ | (refine tr_skip ?_; try simp only [ex_seq]))
      refine tr_cond rfl (fun ht => ?_) (fun hf => ?_)
      · cases ht
      · repeat (first | refine tr_seq_k fun _ _ => ?_ | (refine tr_region ?_; simp only [go_sem, reduceCtorEq, Nat.reduceEqDiff, Nat.reduceLT, ↓reduceIte, w3, cu, sh, ci, w4, q0]) | refine k_of (by assumption) ?_ | (refine tr_skip ?_; try simp only [ex_seq]))
        refine tr_cond rfl (fun ht => ?_) (fun hf => ?_)
        · cases ht
        · repeat (first | refine tr_seq_k fun _ _ => ?_ | (refine tr_region ?_; simp only [go_sem, reduceCtorEq, Nat.reduceEqDiff, Nat.reduceLT, ↓reduceIte, w6]) | refine k_of (by assumption) ?_ | refine tr_block ?_)
          refine tr_loop_k (σ := Nat × Nat × Nat) (fun q => [(0, .lsl 0 0 l.length 11), (1, iA a), (2, iA m), (3, iA b), (4, cmpF), (18, iA mid), (19, iA nn), (22, iA ((nn - 1 : Nat) : Int)), (20, iA q.2.1), (21, iA q.2.2)]) (fun q => ⟨[⟨false, blC atC l⟩], hw⟩)
            (fun q => R = bs (fun c => !ltAt ltA l (nn - 1 - c) c) (q.1 + 1) q.2.1 q.2.2 ∧ a ≤ q.2.1 ∧ q.2.1 ≤ q.2.2 ∧ q.2.2 ≤ m ∧ q.2.2 - q.2.1 ≤ q.1) (fun q => q.2.2 - q.2.1) (m - a, a, m) ⟨hR, Nat.le_refl _, by dsimp only; omega, Nat.le_refl _, Nat.le_refl _⟩ ⟨rfl, rfl, rfl, rfl, rfl, rfl, rfl, rfl, rfl, rfl, trivial⟩ rfl ?_
          rintro ⟨g, i, j⟩ ⟨hRR, hmi, hij, hjb, hg⟩ K hK
          dsimp only at hRR hmi hij hjb hg ⊢
          by_cases hlt : i < j
          · have q1 : decide ((i : Int) < (j : Int)) = true := decide_eq_true (by omega)
            obtain ⟨g, rfl⟩ : ∃ z, g = z + 1 := ⟨g - 1, by omega⟩
            have w2 := wrap_addN (show i + j ≤ 1000000000 by omega)
            have w2b : i + j ≤ 1000000000 := by omega
            have w2c : (i + j) / 2 ≤ 1000000000 := by omega
            have hR2 := bs_hit hRR hlt
            have hh1 : i ≤ (i + j) / 2 := by omega
            have hh2 : (i + j) / 2 < j := by omega
            have sh := shO (i + j)
            have cu := cvU _ w2b
            have ci := cvI _ w2c
            generalize (i + j) / 2 = h at *
            have ws := wrap_succ (show h ≤ 1000000000 by omega)
            have wp := wrap_subN (show h ≤ nn - 1 by omega) (by omega)
            have hx : nn - 1 - h < l.length := by omega
            have hy : h < l.length := by omega
            have cC := cmpA_does l[nn - 1 - h] l[h] (hsz _ (List.getElem_mem hx)) (hsz _ (List.getElem_mem hy))
            have hlt2 := cmpA_lt l[nn - 1 - h] l[h]
            have d1 := drLA hx
            have d2 := drLA hy
            rw [ltAt_eq hx hy] at hR2
            cases hz : ltA l[nn - 1 - h] l[h] with
            | true =>
              rw [hz] at hlt2 hR2
              rw [if_neg (by decide)] at hR2
              repeat (first | refine tr_seq_k fun _ _ => ?_ | (refine tr_region ?_; simp only [go_sem, reduceCtorEq, Nat.reduceEqDiff, Nat.reduceLT, ↓reduceIte, q1]) | refine k_of (by assumption) ?_)
              refine tr_cond rfl (fun ht => ?_) (fun hf => ?_)
              · repeat (first | refine tr_seq_k fun _ _ => ?_ | (refine tr_region ?_; simp only [go_sem, reduceCtorEq, Nat.reduceEqDiff, Nat.reduceLT, ↓reduceIte, w2, cu, ci, sh]) | (refine tr_draw (id := 35) follows 10000 [11] [0, 1, 2, 3, 4, 5, 6, 7, 8, 9, 10, 11, 12, 13] (by kernel_rfl) ?_; simp only [go_sem, List.getElem?_toArray, reduceCtorEq, Nat.reduceEqDiff, Nat.reduceLT, ↓reduceIte, wp, ixLA hx, ixLA hy, d1, d2, fitLA hx, fitLA hy]) | (refine call_of (cC) ?_ ?_; (first | rfl | simp only [go_sem, reduceCtorEq, Nat.reduceEqDiff, Nat.reduceLT, Nat.reduceLeDiff, Nat.reduceAdd, Nat.reduceMul, Nat.reduceSub, Nat.reduceBEq, ↓reduceIte, w2, cu, ci, sh, wp, ixLA hx, ixLA hy, d1, d2, fitLA hx, fitLA hy, hlt2, shut_col]); simp only [go_sem, reduceCtorEq, Nat.reduceEqDiff, Nat.reduceLT, ↓reduceIte, Bool.true_or, hlt2]) | refine k_of (by assumption) ?_ | refine tr_block ?_ | (refine tr_skip ?_; try simp only [ex_seq]))
                refine tr_cond rfl (fun ht => ?_) (fun hf => ?_)
                · cases ht
                · repeat ((refine tr_region ?_; simp only [go_sem, reduceCtorEq, Nat.reduceEqDiff, Nat.reduceLT, ↓reduceIte]))
                  exact hK (g, i, h) _ _ ⟨hR2, by dsimp only; omega, by dsimp only; omega, by dsimp only; omega, by dsimp only; omega⟩ ⟨⟨rfl, rfl, rfl, rfl, rfl, rfl, rfl, rfl, rfl, rfl, trivial⟩, Keep.refl _, rfl, by simp only [lowB, lows_blC]; rfl, Nat.le_refl _, Nat.le_refl _⟩ (by dsimp only; omega)
              · cases hf
            | false =>
              rw [hz] at hlt2 hR2
              rw [if_pos (by decide)] at hR2
              repeat (first | refine tr_seq_k fun _ _ => ?_ | (refine tr_region ?_; simp only [go_sem, reduceCtorEq, Nat.reduceEqDiff, Nat.reduceLT, ↓reduceIte, q1]) | refine k_of (by assumption) ?_)
              refine tr_cond rfl (fun ht => ?_) (fun hf => ?_)
              · repeat (first | refine tr_seq_k fun _ _ => ?_ | (refine tr_region ?_; simp only [go_sem, reduceCtorEq, Nat.reduceEqDiff, Nat.reduceLT, ↓reduceIte, w2, cu, ci, sh]) | (refine tr_draw (id := 35) follows 10000 [11] [0, 1, 2, 3, 4, 5, 6, 7, 8, 9, 10, 11, 12, 13] (by kernel_rfl) ?_; simp only [go_sem, List.getElem?_toArray, reduceCtorEq, Nat.reduceEqDiff, Nat.reduceLT, ↓reduceIte, wp, ixLA hx, ixLA hy, d1, d2, fitLA hx, fitLA hy]) | (refine call_of (cC) ?_ ?_; (first | rfl | simp only [go_sem, reduceCtorEq, Nat.reduceEqDiff, Nat.reduceLT, Nat.reduceLeDiff, Nat.reduceAdd, Nat.reduceMul, Nat.reduceSub, Nat.reduceBEq, ↓reduceIte, w2, cu, ci, sh, wp, ixLA hx, ixLA hy, d1, d2, fitLA hx, fitLA hy, hlt2, shut_col]); simp only [go_sem, reduceCtorEq, Nat.reduceEqDiff, Nat.reduceLT, ↓reduceIte, Bool.true_or, hlt2]) | refine k_of (by assumption) ?_ | refine tr_block ?_ | (refine tr_skip ?_; try simp only [ex_seq]))
                refine tr_cond rfl (fun ht => ?_) (fun hf => ?_)
                · repeat ((refine tr_region ?_; simp only [go_sem, reduceCtorEq, Nat.reduceEqDiff, Nat.reduceLT, ↓reduceIte, ws]))
                  exact hK (g, h + 1, j) _ _ ⟨hR2, by dsimp only; omega, by dsimp only; omega, by dsimp only; omega, by dsimp only; omega⟩ ⟨⟨rfl, rfl, rfl, rfl, rfl, rfl, rfl, rfl, rfl, rfl, trivial⟩, Keep.refl _, rfl, by simp only [lowB, lows_blC]; rfl, Nat.le_refl _, Nat.le_refl _⟩ (by dsimp only; omega)
                · cases hf
              · cases hf
          · have q1 : decide ((i : Int) < (j : Int)) = false := decide_eq_false (by omega)
            obtain rfl : R = i := bs_end hRR hlt
            repeat (first | refine tr_seq_k fun _ _ => ?_ | (refine tr_region ?_; simp only [go_sem, reduceCtorEq, Nat.reduceEqDiff, Nat.reduceLT, ↓reduceIte, q1]) | refine k_of (by assumption) ?_)
            refine tr_cond rfl (fun ht => ?_) (fun hf => ?_)
            · cases ht
            · have hRm : a ≤ R := hmi
              have hRr : R ≤ m := by omega
              have w7 := wrap_subN (show R ≤ nn by omega) (by omega)
              have hT := hTT R rfl
              obtain ⟨e, he⟩ : ∃ e, e = nn - R := ⟨_, rfl⟩
              rw [← he] at w7 hT
              by_cases c1 : R < m
              · by_cases c2 : m < e
                · have d1 : decide ((R : Int) < (m : Int)) = true := decide_eq_true (by omega)
                  have d2 : decide ((m : Int) < (e : Int)) = true := decide_eq_true (by omega)
                  rw [if_pos ⟨c1, c2⟩] at hT
                  have cS1 := rot_gives l R m e hw c1 c2 (by omega) (by omega)
                  obtain ⟨l1, hl1⟩ : ∃ l1, l1 = rotL m (e - R) l (m - R) (e - m) := ⟨_, rfl⟩
                  rw [← hl1] at cS1 hT
                  have hl1n : l1.length = l.length := by rw [hl1, rotL_len]
                  have hl1s : ∀ x ∈ l1, AtSz x := fun x hx => hsz x (rotL_mem _ _ _ _ (hl1 ▸ hx))
                  clear hl1
                  repeat (first | refine tr_seq_k fun _ _ => ?_ | (refine tr_region ?_; simp only [go_sem, List.getElem?_toArray, reduceCtorEq, Nat.reduceEqDiff, Nat.reduceLT, ↓reduceIte, w7, d1, d2]) | refine k_of (by assumption) ?_ | (refine tr_exit ?_; try simp only [ex_seq_exit, ex_block_exit, ex_seq, ↓reduceIte]))
                  refine tr_cond rfl (fun ht => ?_) (fun hf => ?_)
                  · clear d1 d2
                    unfold symT2 at hT
                    by_cases c1 : a < R
                    · by_cases c2 : R < mid
                      · have d1 : decide ((a : Int) < (R : Int)) = true := decide_eq_true (by omega)
                        have d2 : decide ((R : Int) < (mid : Int)) = true := decide_eq_true (by omega)
                        rw [if_pos ⟨c1, c2⟩] at hT
                        have cS2 := ih l1 a R mid hw c1 c2 (by omega) (by omega) (by omega) hl1s
                        obtain ⟨l2, hl2⟩ : ∃ l2, l2 = symL ltA f l1 a R mid := ⟨_, rfl⟩
                        rw [← hl2] at cS2 hT
                        have hl2n : l2.length = l.length := by rw [hl2, symL_len]; exact hl1n
                        have hl2s : ∀ x ∈ l2, AtSz x := fun x hx => hl1s x (symL_mem _ _ _ _ _ (hl2 ▸ hx))
                        rw [hl1n] at cS2
                        clear hl2
                        repeat (first | refine tr_seq_k fun _ _ => ?_ | (refine tr_region ?_; simp only [go_sem, List.getElem?_toArray, reduceCtorEq, Nat.reduceEqDiff, Nat.reduceLT, ↓reduceIte, d1, d2]) | (refine call_givesW (cS1) ?_; (try dsimp only); (try simp only [go_sem, reduceCtorEq, Nat.reduceEqDiff, Nat.reduceLT, Nat.reduceLeDiff, Nat.reduceAdd, Nat.reduceMul, Nat.reduceSub, Nat.reduceBEq, ↓reduceIte, d1, d2])) | refine k_of (by assumption) ?_)
                        refine tr_cond rfl (fun ht => ?_) (fun hf => ?_)
                        · clear d1 d2
                          unfold symT3 at hT
                          by_cases c1 : mid < e
                          · by_cases c2 : e < b
                            · have d1 : decide ((mid : Int) < (e : Int)) = true := decide_eq_true (by omega)
                              have d2 : decide ((e : Int) < (b : Int)) = true := decide_eq_true (by omega)
                              rw [if_pos ⟨c1, c2⟩] at hT
                              have cS3 := ih l2 mid e b hw c1 c2 (by omega) (by omega) (by omega) hl2s
                              obtain ⟨l3, hl3⟩ : ∃ l3, l3 = symL ltA f l2 mid e b := ⟨_, rfl⟩
                              rw [← hl3] at cS3 hT
                              have hl3n : l3.length = l.length := by rw [hl3, symL_len]; exact hl2n
                              have hl3s : ∀ x ∈ l3, AtSz x := fun x hx => hl2s x (symL_mem _ _ _ _ _ (hl3 ▸ hx))
                              rw [hl2n] at cS3
                              clear hl3
                              repeat (first | refine tr_seq_k fun _ _ => ?_ | (refine tr_region ?_; simp only [go_sem, List.getElem?_toArray, reduceCtorEq, Nat.reduceEqDiff, Nat.reduceLT, ↓reduceIte, d1, d2]) | (refine call_givesW (cS2) ?_; (try dsimp only); (try simp only [go_sem, reduceCtorEq, Nat.reduceEqDiff, Nat.reduceLT, Nat.reduceLeDiff, Nat.reduceAdd, Nat.reduceMul, Nat.reduceSub, Nat.reduceBEq, ↓reduceIte, d1, d2])) | refine k_of (by assumption) ?_)
                              refine tr_cond rfl (fun ht => ?_) (fun hf => ?_)
                              · clear d1 d2
                                repeat (first | (refine tr_region ?_; simp only [go_sem, reduceCtorEq, Nat.reduceEqDiff, Nat.reduceLT, ↓reduceIte]) | (refine call_givesW (cS3) ?_; (try dsimp only); (try simp only [go_sem, reduceCtorEq, Nat.reduceEqDiff, Nat.reduceLT, Nat.reduceLeDiff, Nat.reduceAdd, Nat.reduceMul, Nat.reduceSub, Nat.reduceBEq, ↓reduceIte])))
                                exact (hQ _ _ [] rfl rfl (by rw [hT])).1
                              · cases hf
                            · have d1 : decide ((mid : Int) < (e : Int)) = true := decide_eq_true (by omega)
                              have d2 : decide ((e : Int) < (b : Int)) = false := decide_eq_false (by omega)
                              rw [if_neg (fun h => c2 h.2)] at hT
                              repeat (first | refine tr_seq_k fun _ _ => ?_ | (refine tr_region ?_; simp only [go_sem, List.getElem?_toArray, reduceCtorEq, Nat.reduceEqDiff, Nat.reduceLT, ↓reduceIte, d1, d2]) | (refine call_givesW (cS2) ?_; (try dsimp only); (try simp only [go_sem, reduceCtorEq, Nat.reduceEqDiff, Nat.reduceLT, Nat.reduceLeDiff, Nat.reduceAdd, Nat.reduceMul, Nat.reduceSub, Nat.reduceBEq, ↓reduceIte, d1, d2])) | refine k_of (by assumption) ?_)
                              refine tr_cond rfl (fun ht => ?_) (fun hf => ?_)
                              · cases ht
                              · clear d1 d2
                                repeat ((refine tr_skip ?_; try simp only [ex_seq, ex_block]))
                                exact (hQ _ _ [] rfl rfl (by rw [hT])).1
                          · have d1 : decide ((mid : Int) < (e : Int)) = false := decide_eq_false (by omega)
                            rw [if_neg (fun h => c1 h.1)] at hT
                            repeat (first | refine tr_seq_k fun _ _ => ?_ | (refine tr_region ?_; simp only [go_sem, List.getElem?_toArray, reduceCtorEq, Nat.reduceEqDiff, Nat.reduceLT, ↓reduceIte, d1]) | (refine call_givesW (cS2) ?_; (try dsimp only); (try simp only [go_sem, reduceCtorEq, Nat.reduceEqDiff, Nat.reduceLT, Nat.reduceLeDiff, Nat.reduceAdd, Nat.reduceMul, Nat.reduceSub, Nat.reduceBEq, ↓reduceIte, d1])) | refine k_of (by assumption) ?_)
                            refine tr_cond rfl (fun ht => ?_) (fun hf => ?_)
                            · cases ht
                            · clear d1
                              repeat ((refine tr_skip ?_; try simp only [ex_seq, ex_block]))
                              exact (hQ _ _ [] rfl rfl (by rw [hT])).1
                        · cases hf
                      · have d1 : decide ((a : Int) < (R : Int)) = true := decide_eq_true (by omega)
                        have d2 : decide ((R : Int) < (mid : Int)) = false := decide_eq_false (by omega)
                        rw [if_neg (fun h => c2 h.2)] at hT
                        repeat (first | refine tr_seq_k fun _ _ => ?_ | (refine tr_region ?_; simp only [go_sem, List.getElem?_toArray, reduceCtorEq, Nat.reduceEqDiff, Nat.reduceLT, ↓reduceIte, d1, d2]) | (refine call_givesW (cS1) ?_; (try dsimp only); (try simp only [go_sem, reduceCtorEq, Nat.reduceEqDiff, Nat.reduceLT, Nat.reduceLeDiff, Nat.reduceAdd, Nat.reduceMul, Nat.reduceSub, Nat.reduceBEq, ↓reduceIte, d1, d2])) | refine k_of (by assumption) ?_)
                        refine tr_cond rfl (fun ht => ?_) (fun hf => ?_)
                        · cases ht
                        · clear d1 d2
                          unfold symT3 at hT
                          by_cases c1 : mid < e
                          · by_cases c2 : e < b
                            · have d1 : decide ((mid : Int) < (e : Int)) = true := decide_eq_true (by omega)
                              have d2 : decide ((e : Int) < (b : Int)) = true := decide_eq_true (by omega)
                              rw [if_pos ⟨c1, c2⟩] at hT
                              have cS3 := ih l1 mid e b hw c1 c2 (by omega) (by omega) (by omega) hl1s
                              obtain ⟨l3, hl3⟩ : ∃ l3, l3 = symL ltA f l1 mid e b := ⟨_, rfl⟩
                              rw [← hl3] at cS3 hT
                              have hl3n : l3.length = l.length := by rw [hl3, symL_len]; exact hl1n
                              have hl3s : ∀ x ∈ l3, AtSz x := fun x hx => hl1s x (symL_mem _ _ _ _ _ (hl3 ▸ hx))
                              rw [hl1n] at cS3
                              clear hl3
                              repeat (first | refine tr_seq_k fun _ _ => ?_ | (refine tr_region ?_; simp only [go_sem, List.getElem?_toArray, reduceCtorEq, Nat.reduceEqDiff, Nat.reduceLT, ↓reduceIte, d1, d2]) | refine k_of (by assumption) ?_ | (refine tr_skip ?_; try simp only [ex_seq]))
                              refine tr_cond rfl (fun ht => ?_) (fun hf => ?_)
                              · clear d1 d2
                                repeat (first | (refine tr_region ?_; simp only [go_sem, reduceCtorEq, Nat.reduceEqDiff, Nat.reduceLT, ↓reduceIte]) | (refine call_givesW (cS3) ?_; (try dsimp only); (try simp only [go_sem, reduceCtorEq, Nat.reduceEqDiff, Nat.reduceLT, Nat.reduceLeDiff, Nat.reduceAdd, Nat.reduceMul, Nat.reduceSub, Nat.reduceBEq, ↓reduceIte])))
                                exact (hQ _ _ [] rfl rfl (by rw [hT])).1
                              · cases hf
                            · have d1 : decide ((mid : Int) < (e : Int)) = true := decide_eq_true (by omega)
                              have d2 : decide ((e : Int) < (b : Int)) = false := decide_eq_false (by omega)
                              rw [if_neg (fun h => c2 h.2)] at hT
                              repeat (first | refine tr_seq_k fun _ _ => ?_ | (refine tr_region ?_; simp only [go_sem, List.getElem?_toArray, reduceCtorEq, Nat.reduceEqDiff, Nat.reduceLT, ↓reduceIte, d1, d2]) | refine k_of (by assumption) ?_ | (refine tr_skip ?_; try simp only [ex_seq]))
                              refine tr_cond rfl (fun ht => ?_) (fun hf => ?_)
                              · cases ht
                              · clear d1 d2
                                repeat ((refine tr_skip ?_; try simp only [ex_seq, ex_block]))
                                exact (hQ _ _ [] rfl rfl (by rw [hT])).1
                          · have d1 : decide ((mid : Int) < (e : Int)) = false := decide_eq_false (by omega)
                            rw [if_neg (fun h => c1 h.1)] at hT
                            repeat (first | refine tr_seq_k fun _ _ => ?_ | (refine tr_region ?_; simp only [go_sem, List.getElem?_toArray, reduceCtorEq, Nat.reduceEqDiff, Nat.reduceLT, ↓reduceIte, d1]) | refine k_of (by assumption) ?_ | (refine tr_skip ?_; try simp only [ex_seq]))
                            refine tr_cond rfl (fun ht => ?_) (fun hf => ?_)
                            · cases ht
                            · clear d1
                              repeat ((refine tr_skip ?_; try simp only [ex_seq, ex_block]))
                              exact (hQ _ _ [] rfl rfl (by rw [hT])).1
                    · have d1 : decide ((a : Int) < (R : Int)) = false := decide_eq_false (by omega)
                      rw [if_neg (fun h => c1 h.1)] at hT
                      repeat (first | refine tr_seq_k fun _ _ => ?_ | (refine tr_region ?_; simp only [go_sem, List.getElem?_toArray, reduceCtorEq, Nat.reduceEqDiff, Nat.reduceLT, ↓reduceIte, d1]) | (refine call_givesW (cS1) ?_; (try dsimp only); (try simp only [go_sem, reduceCtorEq, Nat.reduceEqDiff, Nat.reduceLT, Nat.reduceLeDiff, Nat.reduceAdd, Nat.reduceMul, Nat.reduceSub, Nat.reduceBEq, ↓reduceIte, d1])) | refine k_of (by assumption) ?_)
                      refine tr_cond rfl (fun ht => ?_) (fun hf => ?_)
                      · cases ht
                      · clear d1
                        unfold symT3 at hT
                        by_cases c1 : mid < e
                        · by_cases c2 : e < b
                          · have d1 : decide ((mid : Int) < (e : Int)) = true := decide_eq_true (by omega)
                            have d2 : decide ((e : Int) < (b : Int)) = true := decide_eq_true (by omega)
                            rw [if_pos ⟨c1, c2⟩] at hT
                            have cS3 := ih l1 mid e b hw c1 c2 (by omega) (by omega) (by omega) hl1s
                            obtain ⟨l3, hl3⟩ : ∃ l3, l3 = symL ltA f l1 mid e b := ⟨_, rfl⟩
                            rw [← hl3] at cS3 hT
                            have hl3n : l3.length = l.length := by rw [hl3, symL_len]; exact hl1n
                            have hl3s : ∀ x ∈ l3, AtSz x := fun x hx => hl1s x (symL_mem _ _ _ _ _ (hl3 ▸ hx))
                            rw [hl1n] at cS3
                            clear hl3
                            repeat (first | refine tr_seq_k fun _ _ => ?_ | (refine tr_region ?_; simp only [go_sem, List.getElem?_toArray, reduceCtorEq, Nat.reduceEqDiff, Nat.reduceLT, ↓reduceIte, d1, d2]) | refine k_of (by assumption) ?_ | (refine tr_skip ?_; try simp only [ex_seq]))
                            refine tr_cond rfl (fun ht => ?_) (fun hf => ?_)
                            · clear d1 d2
                              repeat (first | (refine tr_region ?_; simp only [go_sem, reduceCtorEq, Nat.reduceEqDiff, Nat.reduceLT, ↓reduceIte]) | (refine call_givesW (cS3) ?_; (try dsimp only); (try simp only [go_sem, reduceCtorEq, Nat.reduceEqDiff, Nat.reduceLT, Nat.reduceLeDiff, Nat.reduceAdd, Nat.reduceMul, Nat.reduceSub, Nat.reduceBEq, ↓reduceIte])))
                              exact (hQ _ _ [] rfl rfl (by rw [hT])).1
                            · cases hf
                          · have d1 : decide ((mid : Int) < (e : Int)) = true := decide_eq_true (by omega)
                            have d2 : decide ((e : Int) < (b : Int)) = false := decide_eq_false (by omega)
                            rw [if_neg (fun h => c2 h.2)] at hT
                            repeat (first | refine tr_seq_k fun _ _ => ?_ | (refine tr_region ?_; simp only [go_sem, List.getElem?_toArray, reduceCtorEq, Nat.reduceEqDiff, Nat.reduceLT, ↓reduceIte, d1, d2]) | refine k_of (by assumption) ?_ | (refine tr_skip ?_; try simp only [ex_seq]))
                            refine tr_cond rfl (fun ht => ?_) (fun hf => ?_)
                            · cases ht
                            · clear d1 d2
                              repeat ((refine tr_skip ?_; try simp only [ex_seq, ex_block]))
                              exact (hQ _ _ [] rfl rfl (by rw [hT])).1
                        · have d1 : decide ((mid : Int) < (e : Int)) = false := decide_eq_false (by omega)
                          rw [if_neg (fun h => c1 h.1)] at hT
                          repeat (first | refine tr_seq_k fun _ _ => ?_ | (refine tr_region ?_; simp only [go_sem, List.getElem?_toArray, reduceCtorEq, Nat.reduceEqDiff, Nat.reduceLT, ↓reduceIte, d1]) | refine k_of (by assumption) ?_ | (refine tr_skip ?_; try simp only [ex_seq]))
                          refine tr_cond rfl (fun ht => ?_) (fun hf => ?_)
                          · cases ht
                          · clear d1
                            repeat ((refine tr_skip ?_; try simp only [ex_seq, ex_block]))
                            exact (hQ _ _ [] rfl rfl (by rw [hT])).1
                  · cases hf
                · have d1 : decide ((R : Int) < (m : Int)) = true := decide_eq_true (by omega)
                  have d2 : decide ((m : Int) < (e : Int)) = false := decide_eq_false (by omega)
                  rw [if_neg (fun h => c2 h.2)] at hT
                  repeat (first | refine tr_seq_k fun _ _ => ?_ | (refine tr_region ?_; simp only [go_sem, List.getElem?_toArray, reduceCtorEq, Nat.reduceEqDiff, Nat.reduceLT, ↓reduceIte, w7, d1, d2]) | refine k_of (by assumption) ?_ | (refine tr_exit ?_; try simp only [ex_seq_exit, ex_block_exit, ex_seq, ↓reduceIte]))
                  refine tr_cond rfl (fun ht => ?_) (fun hf => ?_)
                  · cases ht
                  · clear d1 d2
                    unfold symT2 at hT
                    by_cases c1 : a < R
                    · by_cases c2 : R < mid
                      · have d1 : decide ((a : Int) < (R : Int)) = true := decide_eq_true (by omega)
                        have d2 : decide ((R : Int) < (mid : Int)) = true := decide_eq_true (by omega)
                        rw [if_pos ⟨c1, c2⟩] at hT
                        have cS2 := ih l a R mid hw c1 c2 (by omega) (by omega) (by omega) hsz
                        obtain ⟨l2, hl2⟩ : ∃ l2, l2 = symL ltA f l a R mid := ⟨_, rfl⟩
                        rw [← hl2] at cS2 hT
                        have hl2n : l2.length = l.length := by rw [hl2, symL_len]
                        have hl2s : ∀ x ∈ l2, AtSz x := fun x hx => hsz x (symL_mem _ _ _ _ _ (hl2 ▸ hx))
                        clear hl2
                        repeat (first | refine tr_seq_k fun _ _ => ?_ | (refine tr_region ?_; simp only [go_sem, List.getElem?_toArray, reduceCtorEq, Nat.reduceEqDiff, Nat.reduceLT, ↓reduceIte, d1, d2]) | refine k_of (by assumption) ?_ | (refine tr_skip ?_; try simp only [ex_seq]))
                        refine tr_cond rfl (fun ht => ?_) (fun hf => ?_)
                        · clear d1 d2
                          unfold symT3 at hT
                          by_cases c1 : mid < e
                          · by_cases c2 : e < b
                            · have d1 : decide ((mid : Int) < (e : Int)) = true := decide_eq_true (by omega)
                              have d2 : decide ((e : Int) < (b : Int)) = true := decide_eq_true (by omega)
                              rw [if_pos ⟨c1, c2⟩] at hT
                              have cS3 := ih l2 mid e b hw c1 c2 (by omega) (by omega) (by omega) hl2s
                              obtain ⟨l3, hl3⟩ : ∃ l3, l3 = symL ltA f l2 mid e b := ⟨_, rfl⟩
                              rw [← hl3] at cS3 hT
                              have hl3n : l3.length = l.length := by rw [hl3, symL_len]; exact hl2n
                              have hl3s : ∀ x ∈ l3, AtSz x := fun x hx => hl2s x (symL_mem _ _ _ _ _ (hl3 ▸ hx))
                              rw [hl2n] at cS3
                              clear hl3
                              repeat (first | refine tr_seq_k fun _ _ => ?_ | (refine tr_region ?_; simp only [go_sem, List.getElem?_toArray, reduceCtorEq, Nat.reduceEqDiff, Nat.reduceLT, ↓reduceIte, d1, d2]) | (refine call_givesW (cS2) ?_; (try dsimp only); (try simp only [go_sem, reduceCtorEq, Nat.reduceEqDiff, Nat.reduceLT, Nat.reduceLeDiff, Nat.reduceAdd, Nat.reduceMul, Nat.reduceSub, Nat.reduceBEq, ↓reduceIte, d1, d2])) | refine k_of (by assumption) ?_)
                              refine tr_cond rfl (fun ht => ?_) (fun hf => ?_)
                              · clear d1 d2
                                repeat (first | (refine tr_region ?_; simp only [go_sem, reduceCtorEq, Nat.reduceEqDiff, Nat.reduceLT, ↓reduceIte]) | (refine call_givesW (cS3) ?_; (try dsimp only); (try simp only [go_sem, reduceCtorEq, Nat.reduceEqDiff, Nat.reduceLT, Nat.reduceLeDiff, Nat.reduceAdd, Nat.reduceMul, Nat.reduceSub, Nat.reduceBEq, ↓reduceIte])))
                                exact (hQ _ _ [] rfl rfl (by rw [hT])).1
                              · cases hf
                            · have d1 : decide ((mid : Int) < (e : Int)) = true := decide_eq_true (by omega)
                              have d2 : decide ((e : Int) < (b : Int)) = false := decide_eq_false (by omega)
                              rw [if_neg (fun h => c2 h.2)] at hT
                              repeat (first | refine tr_seq_k fun _ _ => ?_ | (refine tr_region ?_; simp only [go_sem, List.getElem?_toArray, reduceCtorEq, Nat.reduceEqDiff, Nat.reduceLT, ↓reduceIte, d1, d2]) | (refine call_givesW (cS2) ?_; (try dsimp only); (try simp only [go_sem, reduceCtorEq, Nat.reduceEqDiff, Nat.reduceLT, Nat.reduceLeDiff, Nat.reduceAdd, Nat.reduceMul, Nat.reduceSub, Nat.reduceBEq, ↓reduceIte, d1, d2])) | refine k_of (by assumption) ?_)
                              refine tr_cond rfl (fun ht => ?_) (fun hf => ?_)
                              · cases ht
                              · clear d1 d2
                                repeat ((refine tr_skip ?_; try simp only [ex_seq, ex_block]))
                                exact (hQ _ _ [] rfl rfl (by rw [hT])).1
                          · have d1 : decide ((mid : Int) < (e : Int)) = false := decide_eq_false (by omega)
                            rw [if_neg (fun h => c1 h.1)] at hT
                            repeat (first | refine tr_seq_k fun _ _ => ?_ | (refine tr_region ?_; simp only [go_sem, List.getElem?_toArray, reduceCtorEq, Nat.reduceEqDiff, Nat.reduceLT, ↓reduceIte, d1]) | (refine call_givesW (cS2) ?_; (try dsimp only); (try simp only [go_sem, reduceCtorEq, Nat.reduceEqDiff, Nat.reduceLT, Nat.reduceLeDiff, Nat.reduceAdd, Nat.reduceMul, Nat.reduceSub, Nat.reduceBEq, ↓reduceIte, d1])) | refine k_of (by assumption) ?_)
                            refine tr_cond rfl (fun ht => ?_) (fun hf => ?_)
                            · cases ht
                            · clear d1
                              repeat ((refine tr_skip ?_; try simp only [ex_seq, ex_block]))
                              exact (hQ _ _ [] rfl rfl (by rw [hT])).1
                        · cases hf
                      · have d1 : decide ((a : Int) < (R : Int)) = true := decide_eq_true (by omega)
                        have d2 : decide ((R : Int) < (mid : Int)) = false := decide_eq_false (by omega)
                        rw [if_neg (fun h => c2 h.2)] at hT
                        repeat (first | refine tr_seq_k fun _ _ => ?_ | (refine tr_region ?_; simp only [go_sem, List.getElem?_toArray, reduceCtorEq, Nat.reduceEqDiff, Nat.reduceLT, ↓reduceIte, d1, d2]) | refine k_of (by assumption) ?_ | (refine tr_skip ?_; try simp only [ex_seq]))
                        refine tr_cond rfl (fun ht => ?_) (fun hf => ?_)
                        · cases ht
                        · clear d1 d2
                          unfold symT3 at hT
                          by_cases c1 : mid < e
                          · by_cases c2 : e < b
                            · have d1 : decide ((mid : Int) < (e : Int)) = true := decide_eq_true (by omega)
                              have d2 : decide ((e : Int) < (b : Int)) = true := decide_eq_true (by omega)
                              rw [if_pos ⟨c1, c2⟩] at hT
                              have cS3 := ih l mid e b hw c1 c2 (by omega) (by omega) (by omega) hsz
                              obtain ⟨l3, hl3⟩ : ∃ l3, l3 = symL ltA f l mid e b := ⟨_, rfl⟩
                              rw [← hl3] at cS3 hT
                              have hl3n : l3.length = l.length := by rw [hl3, symL_len]
                              have hl3s : ∀ x ∈ l3, AtSz x := fun x hx => hsz x (symL_mem _ _ _ _ _ (hl3 ▸ hx))
                              clear hl3
                              repeat (first | refine tr_seq_k fun _ _ => ?_ | (refine tr_region ?_; simp only [go_sem, List.getElem?_toArray, reduceCtorEq, Nat.reduceEqDiff, Nat.reduceLT, ↓reduceIte, d1, d2]) | refine k_of (by assumption) ?_ | (refine tr_skip ?_; try simp only [ex_seq]))
                              refine tr_cond rfl (fun ht => ?_) (fun hf => ?_)
                              · clear d1 d2
                                repeat (first | (refine tr_region ?_; simp only [go_sem, reduceCtorEq, Nat.reduceEqDiff, Nat.reduceLT, ↓reduceIte]) | (refine call_givesW (cS3) ?_; (try dsimp only); (try simp only [go_sem, reduceCtorEq, Nat.reduceEqDiff, Nat.reduceLT, Nat.reduceLeDiff, Nat.reduceAdd, Nat.reduceMul, Nat.reduceSub, Nat.reduceBEq, ↓reduceIte])))
                                exact (hQ _ _ [] rfl rfl (by rw [hT])).1
                              · cases hf
                            · have d1 : decide ((mid : Int) < (e : Int)) = true := decide_eq_true (by omega)
                              have d2 : decide ((e : Int) < (b : Int)) = false := decide_eq_false (by omega)
                              rw [if_neg (fun h => c2 h.2)] at hT
                              repeat (first | refine tr_seq_k fun _ _ => ?_ | (refine tr_region ?_; simp only [go_sem, List.getElem?_toArray, reduceCtorEq, Nat.reduceEqDiff, Nat.reduceLT, ↓reduceIte, d1, d2]) | refine k_of (by assumption) ?_ | (refine tr_skip ?_; try simp only [ex_seq]))
                              refine tr_cond rfl (fun ht => ?_) (fun hf => ?_)
                              · cases ht
                              · clear d1 d2
                                repeat ((refine tr_skip ?_; try simp only [ex_seq, ex_block]))
                                exact (hQ _ _ [] rfl rfl (by rw [hT])).1
                          · have d1 : decide ((mid : Int) < (e : Int)) = false := decide_eq_false (by omega)
                            rw [if_neg (fun h => c1 h.1)] at hT
                            repeat (first | refine tr_seq_k fun _ _ => ?_ | (refine tr_region ?_; simp only [go_sem, List.getElem?_toArray, reduceCtorEq, Nat.reduceEqDiff, Nat.reduceLT, ↓reduceIte, d1]) | refine k_of (by assumption) ?_ | (refine tr_skip ?_; try simp only [ex_seq]))
                            refine tr_cond rfl (fun ht => ?_) (fun hf => ?_)
                            · cases ht
                            · clear d1
                              repeat ((refine tr_skip ?_; try simp only [ex_seq, ex_block]))
                              exact (hQ _ _ [] rfl rfl (by rw [hT])).1
                    · have d1 : decide ((a : Int) < (R : Int)) = false := decide_eq_false (by omega)
                      rw [if_neg (fun h => c1 h.1)] at hT
                      repeat (first | refine tr_seq_k fun _ _ => ?_ | (refine tr_region ?_; simp only [go_sem, List.getElem?_toArray, reduceCtorEq, Nat.reduceEqDiff, Nat.reduceLT, ↓reduceIte, d1]) | refine k_of (by assumption) ?_ | (refine tr_skip ?_; try simp only [ex_seq]))
                      refine tr_cond rfl (fun ht => ?_) (fun hf => ?_)
                      · cases ht
                      · clear d1
                        unfold symT3 at hT
                        by_cases c1 : mid < e
                        · by_cases c2 : e < b
                          · have d1 : decide ((mid : Int) < (e : Int)) = true := decide_eq_true (by omega)
                            have d2 : decide ((e : Int) < (b : Int)) = true := decide_eq_true (by omega)
                            rw [if_pos ⟨c1, c2⟩] at hT
                            have cS3 := ih l mid e b hw c1 c2 (by omega) (by omega) (by omega) hsz
                            obtain ⟨l3, hl3⟩ : ∃ l3, l3 = symL ltA f l mid e b := ⟨_, rfl⟩
                            rw [← hl3] at cS3 hT
                            have hl3n : l3.length = l.length := by rw [hl3, symL_len]
                            have hl3s : ∀ x ∈ l3, AtSz x := fun x hx => hsz x (symL_mem _ _ _ _ _ (hl3 ▸ hx))
                            clear hl3
                            repeat (first | refine tr_seq_k fun _ _ => ?_ | (refine tr_region ?_; simp only [go_sem, List.getElem?_toArray, reduceCtorEq, Nat.reduceEqDiff, Nat.reduceLT, ↓reduceIte, d1, d2]) | refine k_of (by assumption) ?_ | (refine tr_skip ?_; try simp only [ex_seq]))
                            refine tr_cond rfl (fun ht => ?_) (fun hf => ?_)
                            · clear d1 d2
                              repeat (first | (refine tr_region ?_; simp only [go_sem, reduceCtorEq, Nat.reduceEqDiff, Nat.reduceLT, ↓reduceIte]) | (refine call_givesW (cS3) ?_; (try dsimp only); (try simp only [go_sem, reduceCtorEq, Nat.reduceEqDiff, Nat.reduceLT, Nat.reduceLeDiff, Nat.reduceAdd, Nat.reduceMul, Nat.reduceSub, Nat.reduceBEq, ↓reduceIte])))
                              exact (hQ _ _ [] rfl rfl (by rw [hT])).1
                            · cases hf
                          · have d1 : decide ((mid : Int) < (e : Int)) = true := decide_eq_true (by omega)
                            have d2 : decide ((e : Int) < (b : Int)) = false := decide_eq_false (by omega)
                            rw [if_neg (fun h => c2 h.2)] at hT
                            repeat (first | refine tr_seq_k fun _ _ => ?_ | (refine tr_region ?_; simp only [go_sem, List.getElem?_toArray, reduceCtorEq, Nat.reduceEqDiff, Nat.reduceLT, ↓reduceIte, d1, d2]) | refine k_of (by assumption) ?_ | (refine tr_skip ?_; try simp only [ex_seq]))
                            refine tr_cond rfl (fun ht => ?_) (fun hf => ?_)
                            · cases ht
                            · clear d1 d2
                              repeat ((refine tr_skip ?_; try simp only [ex_seq, ex_block]))
                              exact (hQ _ _ [] rfl rfl (by rw [hT])).1
                        · have d1 : decide ((mid : Int) < (e : Int)) = false := decide_eq_false (by omega)
                          rw [if_neg (fun h => c1 h.1)] at hT
                          repeat (first | refine tr_seq_k fun _ _ => ?_ | (refine tr_region ?_; simp only [go_sem, List.getElem?_toArray, reduceCtorEq, Nat.reduceEqDiff, Nat.reduceLT, ↓reduceIte, d1]) | refine k_of (by assumption) ?_ | (refine tr_skip ?_; try simp only [ex_seq]))
                          refine tr_cond rfl (fun ht => ?_) (fun hf => ?_)
                          · cases ht
                          · clear d1
                            repeat ((refine tr_skip ?_; try simp only [ex_seq, ex_block]))
                            exact (hQ _ _ [] rfl rfl (by rw [hT])).1
              · have d1 : decide ((R : Int) < (m : Int)) = false := decide_eq_false (by omega)
                rw [if_neg (fun h => c1 h.1)] at hT
                repeat (first | refine tr_seq_k fun _ _ => ?_ | (refine tr_region ?_; simp only [go_sem, List.getElem?_toArray, reduceCtorEq, Nat.reduceEqDiff, Nat.reduceLT, ↓reduceIte, w7, d1]) | refine k_of (by assumption) ?_ | (refine tr_exit ?_; try simp only [ex_seq_exit, ex_block_exit, ex_seq, ↓reduceIte]))
                refine tr_cond rfl (fun ht => ?_) (fun hf => ?_)
                · cases ht
                · clear d1
                  unfold symT2 at hT
                  by_cases c1 : a < R
                  · by_cases c2 : R < mid
                    · have d1 : decide ((a : Int) < (R : Int)) = true := decide_eq_true (by omega)
                      have d2 : decide ((R : Int) < (mid : Int)) = true := decide_eq_true (by omega)
                      rw [if_pos ⟨c1, c2⟩] at hT
                      have cS2 := ih l a R mid hw c1 c2 (by omega) (by omega) (by omega) hsz
                      obtain ⟨l2, hl2⟩ : ∃ l2, l2 = symL ltA f l a R mid := ⟨_, rfl⟩
                      rw [← hl2] at cS2 hT
                      have hl2n : l2.length = l.length := by rw [hl2, symL_len]
                      have hl2s : ∀ x ∈ l2, AtSz x := fun x hx => hsz x (symL_mem _ _ _ _ _ (hl2 ▸ hx))
                      clear hl2
                      repeat (first | refine tr_seq_k fun _ _ => ?_ | (refine tr_region ?_; simp only [go_sem, List.getElem?_toArray, reduceCtorEq, Nat.reduceEqDiff, Nat.reduceLT, ↓reduceIte, d1, d2]) | refine k_of (by assumption) ?_ | (refine tr_skip ?_; try simp only [ex_seq]))
                      refine tr_cond rfl (fun ht => ?_) (fun hf => ?_)
                      · clear d1 d2
                        unfold symT3 at hT
                        by_cases c1 : mid < e
                        · by_cases c2 : e < b
                          · have d1 : decide ((mid : Int) < (e : Int)) = true := decide_eq_true (by omega)
                            have d2 : decide ((e : Int) < (b : Int)) = true := decide_eq_true (by omega)
                            rw [if_pos ⟨c1, c2⟩] at hT
                            have cS3 := ih l2 mid e b hw c1 c2 (by omega) (by omega) (by omega) hl2s
                            obtain ⟨l3, hl3⟩ : ∃ l3, l3 = symL ltA f l2 mid e b := ⟨_, rfl⟩
                            rw [← hl3] at cS3 hT
                            have hl3n : l3.length = l.length := by rw [hl3, symL_len]; exact hl2n
                            have hl3s : ∀ x ∈ l3, AtSz x := fun x hx => hl2s x (symL_mem _ _ _ _ _ (hl3 ▸ hx))
                            rw [hl2n] at cS3
                            clear hl3
                            repeat (first | refine tr_seq_k fun _ _ => ?_ | (refine tr_region ?_; simp only [go_sem, List.getElem?_toArray, reduceCtorEq, Nat.reduceEqDiff, Nat.reduceLT, ↓reduceIte, d1, d2]) | (refine call_givesW (cS2) ?_; (try dsimp only); (try simp only [go_sem, reduceCtorEq, Nat.reduceEqDiff, Nat.reduceLT, Nat.reduceLeDiff, Nat.reduceAdd, Nat.reduceMul, Nat.reduceSub, Nat.reduceBEq, ↓reduceIte, d1, d2])) | refine k_of (by assumption) ?_)
                            refine tr_cond rfl (fun ht => ?_) (fun hf => ?_)
                            · clear d1 d2
                              repeat (first | (refine tr_region ?_; simp only [go_sem, reduceCtorEq, Nat.reduceEqDiff, Nat.reduceLT, ↓reduceIte]) | (refine call_givesW (cS3) ?_; (try dsimp only); (try simp only [go_sem, reduceCtorEq, Nat.reduceEqDiff, Nat.reduceLT, Nat.reduceLeDiff, Nat.reduceAdd, Nat.reduceMul, Nat.reduceSub, Nat.reduceBEq, ↓reduceIte])))
                              exact (hQ _ _ [] rfl rfl (by rw [hT])).1
                            · cases hf
                          · have d1 : decide ((mid : Int) < (e : Int)) = true := decide_eq_true (by omega)
                            have d2 : decide ((e : Int) < (b : Int)) = false := decide_eq_false (by omega)
                            rw [if_neg (fun h => c2 h.2)] at hT
                            repeat (first | refine tr_seq_k fun _ _ => ?_ | (refine tr_region ?_; simp only [go_sem, List.getElem?_toArray, reduceCtorEq, Nat.reduceEqDiff, Nat.reduceLT, ↓reduceIte, d1, d2]) | (refine call_givesW (cS2) ?_; (try dsimp only); (try simp only [go_sem, reduceCtorEq, Nat.reduceEqDiff, Nat.reduceLT, Nat.reduceLeDiff, Nat.reduceAdd, Nat.reduceMul, Nat.reduceSub, Nat.reduceBEq, ↓reduceIte, d1, d2])) | refine k_of (by assumption) ?_)
                            refine tr_cond rfl (fun ht => ?_) (fun hf => ?_)
                            · cases ht
                            · clear d1 d2
                              repeat ((refine tr_skip ?_; try simp only [ex_seq, ex_block]))
                              exact (hQ _ _ [] rfl rfl (by rw [hT])).1
                        · have d1 : decide ((mid : Int) < (e : Int)) = false := decide_eq_false (by omega)
                          rw [if_neg (fun h => c1 h.1)] at hT
                          repeat (first | refine tr_seq_k fun _ _ => ?_ | (refine tr_region ?_; simp only [go_sem, List.getElem?_toArray, reduceCtorEq, Nat.reduceEqDiff, Nat.reduceLT, ↓reduceIte, d1]) | (refine call_givesW (cS2) ?_; (try dsimp only); (try simp only [go_sem, reduceCtorEq, Nat.reduceEqDiff, Nat.reduceLT, Nat.reduceLeDiff, Nat.reduceAdd, Nat.reduceMul, Nat.reduceSub, Nat.reduceBEq, ↓reduceIte, d1])) | refine k_of (by assumption) ?_)
                          refine tr_cond rfl (fun ht => ?_) (fun hf => ?_)
                          · cases ht
                          · clear d1
                            repeat ((refine tr_skip ?_; try simp only [ex_seq, ex_block]))
                            exact (hQ _ _ [] rfl rfl (by rw [hT])).1
                      · cases hf
                    · have d1 : decide ((a : Int) < (R : Int)) = true := decide_eq_true (by omega)
                      have d2 : decide ((R : Int) < (mid : Int)) = false := decide_eq_false (by omega)
                      rw [if_neg (fun h => c2 h.2)] at hT
                      repeat (first | refine tr_seq_k fun _ _ => ?_ | (refine tr_region ?_; simp only [go_sem, List.getElem?_toArray, reduceCtorEq, Nat.reduceEqDiff, Nat.reduceLT, ↓reduceIte, d1, d2]) | refine k_of (by assumption) ?_ | (refine tr_skip ?_; try simp only [ex_seq]))
                      refine tr_cond rfl (fun ht => ?_) (fun hf => ?_)
                      · cases ht
                      · clear d1 d2
                        unfold symT3 at hT
                        by_cases c1 : mid < e
                        · by_cases c2 : e < b
                          · have d1 : decide ((mid : Int) < (e : Int)) = true := decide_eq_true (by omega)
                            have d2 : decide ((e : Int) < (b : Int)) = true := decide_eq_true (by omega)
                            rw [if_pos ⟨c1, c2⟩] at hT
                            have cS3 := ih l mid e b hw c1 c2 (by omega) (by omega) (by omega) hsz
                            obtain ⟨l3, hl3⟩ : ∃ l3, l3 = symL ltA f l mid e b := ⟨_, rfl⟩
                            rw [← hl3] at cS3 hT
                            have hl3n : l3.length = l.length := by rw [hl3, symL_len]
                            have hl3s : ∀ x ∈ l3, AtSz x := fun x hx => hsz x (symL_mem _ _ _ _ _ (hl3 ▸ hx))
                            clear hl3
                            repeat (first | refine tr_seq_k fun _ _ => ?_ | (refine tr_region ?_; simp only [go_sem, List.getElem?_toArray, reduceCtorEq, Nat.reduceEqDiff, Nat.reduceLT, ↓reduceIte, d1, d2]) | refine k_of (by assumption) ?_ | (refine tr_skip ?_; try simp only [ex_seq]))
                            refine tr_cond rfl (fun ht => ?_) (fun hf => ?_)
                            · clear d1 d2
                              repeat (first | (refine tr_region ?_; simp only [go_sem, reduceCtorEq, Nat.reduceEqDiff, Nat.reduceLT, ↓reduceIte]) | (refine call_givesW (cS3) ?_; (try dsimp only); (try simp only [go_sem, reduceCtorEq, Nat.reduceEqDiff, Nat.reduceLT, Nat.reduceLeDiff, Nat.reduceAdd, Nat.reduceMul, Nat.reduceSub, Nat.reduceBEq, ↓reduceIte])))
                              exact (hQ _ _ [] rfl rfl (by rw [hT])).1
                            · cases hf
                          · have d1 : decide ((mid : Int) < (e : Int)) = true := decide_eq_true (by omega)
                            have d2 : decide ((e : Int) < (b : Int)) = false := decide_eq_false (by omega)
                            rw [if_neg (fun h => c2 h.2)] at hT
                            repeat (first | refine tr_seq_k fun _ _ => ?_ | (refine tr_region ?_; simp only [go_sem, List.getElem?_toArray, reduceCtorEq, Nat.reduceEqDiff, Nat.reduceLT, ↓reduceIte, d1, d2]) | refine k_of (by assumption) ?_ | (refine tr_skip ?_; try simp only [ex_seq]))
                            refine tr_cond rfl (fun ht => ?_) (fun hf => ?_)
                            · cases ht
                            · clear d1 d2
                              repeat ((refine tr_skip ?_; try simp only [ex_seq, ex_block]))
                              exact (hQ _ _ [] rfl rfl (by rw [hT])).1
                        · have d1 : decide ((mid : Int) < (e : Int)) = false := decide_eq_false (by omega)
                          rw [if_neg (fun h => c1 h.1)] at hT
                          repeat (first | refine tr_seq_k fun _ _ => ?_ | (refine tr_region ?_; simp only [go_sem, List.getElem?_toArray, reduceCtorEq, Nat.reduceEqDiff, Nat.reduceLT, ↓reduceIte, d1]) | refine k_of (by assumption) ?_ | (refine tr_skip ?_; try simp only [ex_seq]))
                          refine tr_cond rfl (fun ht => ?_) (fun hf => ?_)
                          · cases ht
                          · clear d1
                            repeat ((refine tr_skip ?_; try simp only [ex_seq, ex_block]))
                            exact (hQ _ _ [] rfl rfl (by rw [hT])).1
                  · have d1 : decide ((a : Int) < (R : Int)) = false := decide_eq_false (by omega)
                    rw [if_neg (fun h => c1 h.1)] at hT
                    repeat (first | refine tr_seq_k fun _ _ => ?_ | (refine tr_region ?_; simp only [go_sem, List.getElem?_toArray, reduceCtorEq, Nat.reduceEqDiff, Nat.reduceLT, ↓reduceIte, d1]) | refine k_of (by assumption) ?_ | (refine tr_skip ?_; try simp only [ex_seq]))
                    refine tr_cond rfl (fun ht => ?_) (fun hf => ?_)
                    · cases ht
                    · clear d1
                      unfold symT3 at hT
                      by_cases c1 : mid < e
                      · by_cases c2 : e < b
                        · have d1 : decide ((mid : Int) < (e : Int)) = true := decide_eq_true (by omega)
                          have d2 : decide ((e : Int) < (b : Int)) = true := decide_eq_true (by omega)
                          rw [if_pos ⟨c1, c2⟩] at hT
                          have cS3 := ih l mid e b hw c1 c2 (by omega) (by omega) (by omega) hsz
                          obtain ⟨l3, hl3⟩ : ∃ l3, l3 = symL ltA f l mid e b := ⟨_, rfl⟩
                          rw [← hl3] at cS3 hT
                          have hl3n : l3.length = l.length := by rw [hl3, symL_len]
                          have hl3s : ∀ x ∈ l3, AtSz x := fun x hx => hsz x (symL_mem _ _ _ _ _ (hl3 ▸ hx))
                          clear hl3
                          repeat (first | refine tr_seq_k fun _ _ => ?_ | (refine tr_region ?_; simp only [go_sem, List.getElem?_toArray, reduceCtorEq, Nat.reduceEqDiff, Nat.reduceLT, ↓reduceIte, d1, d2]) | refine k_of (by assumption) ?_ | (refine tr_skip ?_; try simp only [ex_seq]))
                          refine tr_cond rfl (fun ht => ?_) (fun hf => ?_)
                          · clear d1 d2
                            repeat (first | (refine tr_region ?_; simp only [go_sem, reduceCtorEq, Nat.reduceEqDiff, Nat.reduceLT, ↓reduceIte]) | (refine call_givesW (cS3) ?_; (try dsimp only); (try simp only [go_sem, reduceCtorEq, Nat.reduceEqDiff, Nat.reduceLT, Nat.reduceLeDiff, Nat.reduceAdd, Nat.reduceMul, Nat.reduceSub, Nat.reduceBEq, ↓reduceIte])))
                            exact (hQ _ _ [] rfl rfl (by rw [hT])).1
                          · cases hf
                        · have d1 : decide ((mid : Int) < (e : Int)) = true := decide_eq_true (by omega)
                          have d2 : decide ((e : Int) < (b : Int)) = false := decide_eq_false (by omega)
                          rw [if_neg (fun h => c2 h.2)] at hT
                          repeat (first | refine tr_seq_k fun _ _ => ?_ | (refine tr_region ?_; simp only [go_sem, List.getElem?_toArray, reduceCtorEq, Nat.reduceEqDiff, Nat.reduceLT, ↓reduceIte, d1, d2]) | refine k_of (by assumption) ?_ | (refine tr_skip ?_; try simp only [ex_seq]))
                          refine tr_cond rfl (fun ht => ?_) (fun hf => ?_)
                          · cases ht
                          · clear d1 d2
                            repeat ((refine tr_skip ?_; try simp only [ex_seq, ex_block]))
                            exact (hQ _ _ [] rfl rfl (by rw [hT])).1
                      · have d1 : decide ((mid : Int) < (e : Int)) = false := decide_eq_false (by omega)
                        rw [if_neg (fun h => c1 h.1)] at hT
                        repeat (first | refine tr_seq_k fun _ _ => ?_ | (refine tr_region ?_; simp only [go_sem, List.getElem?_toArray, reduceCtorEq, Nat.reduceEqDiff, Nat.reduceLT, ↓reduceIte, d1]) | refine k_of (by assumption) ?_ | (refine tr_skip ?_; try simp only [ex_seq]))
                        refine tr_cond rfl (fun ht => ?_) (fun hf => ?_)
                        · cases ht
                        · clear d1
                          repeat ((refine tr_skip ?_; try simp only [ex_seq, ex_block]))
                          exact (hQ _ _ [] rfl rfl (by rw [hT])).1
end Go.Proofs.YtinbfakpjnnagaaGreatDoor
namespace Go.Proofs.YtinbfakpjnnagaaGreatDoor
open Go.RowKit Go.Vs Go.Vs.Ab Go.Vs.Sm
set_option maxRecDepth 100000
set_option maxHeartbeats 4000000
theorem sym_gives : ∀ (f : Nat) (l : List Atm) (a m b : Nat) (hw : List Hw), a < m → m < b → b ≤ l.length → l.length ≤ 1000000 → b - a ≤ f → (∀ x ∈ l, AtSz x) → GivesW Tryz.prog 93 [.lsl 0 0 l.length 11, iA a, iA m, iA b, cmpF] ⟨[⟨false, blC atC l⟩], hw⟩ (.tup []) ⟨[⟨false, blC atC (symL ltA f l a m b)⟩], hw⟩
  | 0, l, a, m, b, hw, h1, h2, h3, h4, h5, h6 => by omega
  | f + 1, l, a, m, b, hw, h1, h2, h3, h4, h5, h6 => by
    by_cases c1 : m - a = 1
    · have e : symL ltA (f + 1) l a m b = upL l a (bs (fun h => ltAt ltA l h a) (b - m + 1) m b - 1 - a) := by unfold symL; rw [if_pos c1]
      rw [e]
      exact symA l a m b hw h1 h2 h3 h4 h6 c1
    · by_cases c2 : b - m = 1
      · have e : symL ltA (f + 1) l a m b = downL l m (m - bs (fun h => !ltAt ltA l m h) (m - a + 1) a m) := by unfold symL; rw [if_neg c1, if_pos c2]
        rw [e]
        exact symB l a m b hw h1 h2 h3 h4 h6 c1 c2
      · exact symC f (sym_gives f) l a m b hw h1 h2 h3 h4 h5 h6 c1 c2
theorem stab_gives (l : List Atm) (hw : List Hw) (hl : l.length ≤ 1000000) (hsz : ∀ x ∈ l, AtSz x) : GivesW Tryz.prog 79 [.lsl 0 0 l.length 11, iA l.length, cmpF] ⟨[⟨false, blC atC l⟩], hw⟩ (.tup []) ⟨[⟨false, blC atC (stableL ltA l)⟩], hw⟩ := by
  obtain ⟨T, hT⟩ : ∃ T, T = stableL ltA l := ⟨_, rfl⟩
  rw [← hT]
  unfold stableL at hT
  obtain ⟨T1, hT1⟩ : ∃ T1, T1 = ph1 ltA 20 (l.length + 1) l 0 := ⟨_, rfl⟩
  rw [← hT1] at hT
  refine givesW_of' Tryz.func79 rfl (by kernel_rfl) Tryz.ntmps79 rfl rfl fun Q hQ => ?_
  repeat (first | refine tr_seq_k fun _ _ => ?_ | (refine tr_region ?_; simp only [go_sem, reduceCtorEq, Nat.reduceEqDiff, Nat.reduceLT, Nat.reduceAdd, ↓reduceIte]) | refine k_of (by assumption) ?_ | refine tr_block ?_)
  refine tr_loop_k (σ := Nat × List Atm × Nat) (fun q => [(0, .lsl 0 0 l.length 11), (1, iA l.length), (2, cmpF), (6, iA 20), (7, iA q.2.2), (8, iA ((q.2.2 + 20 : Nat) : Int))]) (fun q => ⟨[⟨false, blC atC q.2.1⟩], hw⟩)
    (fun q => T1 = ph1 ltA 20 (q.1 + 1) q.2.1 q.2.2 ∧ q.2.1.length = l.length ∧ q.2.2 ≤ l.length ∧ l.length - q.2.2 ≤ q.1 ∧ ∀ x ∈ q.2.1, AtSz x) (fun q => l.length - q.2.2) (l.length, l, 0) ⟨hT1, rfl, Nat.zero_le _, Nat.le_refl _, hsz⟩ ⟨rfl, rfl, rfl, rfl, rfl, rfl, trivial⟩ rfl ?_
  rintro ⟨f, L, a⟩ ⟨hTT, hLl, hal, hf1, hLs⟩ K hK
  dsimp only at hTT hLl hal hf1 hLs ⊢
  have hu : ph1 ltA 20 (f + 1) L a = if a + 20 ≤ L.length then ph1 ltA 20 f (isL ltA L a 20) (a + 20) else isL ltA L a (L.length - a) := rfl
  rw [hu, hLl] at hTT
  by_cases c1 : a + 20 ≤ l.length
  · rw [if_pos c1] at hTT
    obtain ⟨f, rfl⟩ : ∃ g, f = g + 1 := ⟨f - 1, by omega⟩
    have q1 : decide (((a + 20 : Nat) : Int) ≤ ((l.length : Nat) : Int)) = true := decide_eq_true (by omega)
    have cI := ins_gives L a (a + 20) hw (by omega) (by omega) (by omega) hLs
    rw [hLl, show a + 20 - a = 20 by omega] at cI
    have ws : IntKind.i64.wrap (((a + 20 : Nat) : Int) + 20) = ((a + 20 + 20 : Nat) : Int) := by rw [wrap_in (by omega)]; omega
    have hn := isL_len (lt := ltA) L a 20
    have hm : ∀ x ∈ isL ltA L a 20, AtSz x := fun x hx => hLs x (isL_mem 20 hx)
    generalize isL ltA L a 20 = L2 at *
    repeat (first | refine tr_seq_k fun _ _ => ?_ | (refine tr_region ?_; simp only [go_sem, reduceCtorEq, Nat.reduceEqDiff, Nat.reduceLT, ↓reduceIte, q1]) | refine k_of (by assumption) ?_)
    refine tr_cond rfl (fun ht => ?_) (fun hf => ?_)
    · repeat (first | refine tr_seq_k fun _ _ => ?_ | (refine tr_region ?_; simp only [go_sem, reduceCtorEq, Nat.reduceEqDiff, Nat.reduceLT, ↓reduceIte, ws]) | (refine call_givesW (cI) ?_; (try dsimp only); (try simp only [go_sem, reduceCtorEq, Nat.reduceEqDiff, Nat.reduceLT, Nat.reduceLeDiff, Nat.reduceAdd, Nat.reduceMul, Nat.reduceSub, Nat.reduceBEq, ↓reduceIte, ws])) | refine k_of (by assumption) ?_ | refine tr_block ?_ | (refine tr_skip ?_; try simp only [ex_seq]))
      exact hK (f, L2, a + 20) _ _ ⟨hTT, by dsimp only; omega, c1, by dsimp only; omega, hm⟩ ⟨⟨rfl, rfl, rfl, rfl, rfl, rfl, trivial⟩, Keep.refl _, rfl, by simp only [lowB, lows_blC]; rfl, Nat.le_refl _, Nat.le_refl _⟩ (by dsimp only; omega)
    · cases hf
  · rw [if_neg c1] at hTT
    have q1 : decide (((a + 20 : Nat) : Int) ≤ ((l.length : Nat) : Int)) = false := decide_eq_false (by omega)
    have cI := ins_gives L a l.length hw hal (by omega) (by omega) hLs
    rw [hLl, ← hTT] at cI
    have hn1 : T1.length = l.length := by rw [hTT, isL_len, hLl]
    have hm1 : ∀ x ∈ T1, AtSz x := fun x hx => hLs x (by rw [hTT] at hx; exact isL_mem _ hx)
    clear hTT hu
    repeat (first | refine tr_seq_k fun _ _ => ?_ | (refine tr_region ?_; simp only [go_sem, reduceCtorEq, Nat.reduceEqDiff, Nat.reduceLT, ↓reduceIte, q1]) | refine k_of (by assumption) ?_)
    refine tr_cond rfl (fun ht => ?_) (fun hf => ?_)
    · cases ht
    · repeat (first | refine tr_seq_k fun _ _ => ?_ | (refine tr_region ?_; simp only [go_sem, reduceCtorEq, Nat.reduceEqDiff, Nat.reduceLT, ↓reduceIte]) | (refine call_givesW (cI) ?_; (try dsimp only); (try simp only [go_sem, reduceCtorEq, Nat.reduceEqDiff, Nat.reduceLT, Nat.reduceLeDiff, Nat.reduceAdd, Nat.reduceMul, Nat.reduceSub, Nat.reduceBEq, ↓reduceIte])) | refine k_of (by assumption) ?_ | refine tr_block ?_ | (refine tr_exit ?_; try simp only [ex_seq_exit, ex_block_exit, ex_seq, ↓reduceIte]))
      refine tr_loop_k (σ := Nat × List Atm × Nat) (fun q => [(0, .lsl 0 0 l.length 11), (1, iA l.length), (2, cmpF), (6, iA q.2.2)]) (fun q => ⟨[⟨false, blC atC q.2.1⟩], hw⟩)
        (fun q => T = phs ltA q.1 q.2.1 q.2.2 ∧ q.2.1.length = l.length ∧ 0 < q.2.2 ∧ l.length ≤ q.2.2 + q.1 ∧ ∀ x ∈ q.2.1, AtSz x) (fun q => l.length - q.2.2) (l.length, T1, 20) ⟨hT, hn1, by dsimp only; omega, by dsimp only; omega, hm1⟩ ⟨rfl, rfl, rfl, rfl, trivial⟩ rfl ?_
      rintro ⟨f, L, B⟩ ⟨hTT, hLl, hB, hf1, hLs⟩ K hK
      dsimp only at hTT hLl hB hf1 hLs ⊢
      by_cases c2 : B < l.length
      · obtain ⟨f, rfl⟩ : ∃ g, f = g + 1 := ⟨f - 1, by omega⟩
        have hu : phs ltA (f + 1) L B = if B < L.length then phs ltA f (ps ltA L.length B (L.length + 1) L 0) (2 * B) else L := rfl
        rw [hu, hLl, if_pos c2] at hTT
        obtain ⟨T2, hT2⟩ : ∃ T2, T2 = ps ltA l.length B (l.length + 1) L 0 := ⟨_, rfl⟩
        rw [← hT2] at hTT
        have q2 : decide ((B : Int) < ((l.length : Nat) : Int)) = true := decide_eq_true (by omega)
        have w2 : IntKind.i64.wrap (2 * (B : Int)) = ((2 * B : Nat) : Int) := by rw [wrap_in (by omega)]; omega
        have w3 : IntKind.i64.wrap ((B : Int) * 2) = ((2 * B : Nat) : Int) := by rw [wrap_in (by omega)]; omega
        have hend : T2.length = l.length → (∀ x ∈ T2, AtSz x) → ∀ fr' m', Back ⟨[⟨false, blC atC T2⟩], hw⟩ [(0, .lsl 0 0 l.length 11), (1, iA l.length), (2, cmpF), (6, iA ((2 * B : Nat) : Int))] ⟨[⟨false, blC atC T2⟩], hw⟩ fr' m' → K fr' m' := fun e1 e2 fr' m' hBk => hK (f, T2, 2 * B) fr' m' ⟨hTT, e1, by dsimp only; omega, by dsimp only; omega, e2⟩ ⟨hBk.sub, hBk.keep, hBk.lowf, by simp only [lowB, lows_blC]; rfl, Nat.le_refl _, Nat.le_refl _⟩ (by dsimp only; omega)
        repeat (first | refine tr_seq_k fun _ _ => ?_ | (refine tr_region ?_; simp only [go_sem, reduceCtorEq, Nat.reduceEqDiff, Nat.reduceLT, ↓reduceIte, q2]) | refine k_of (by assumption) ?_)
        refine tr_cond rfl (fun ht => ?_) (fun hf => ?_)
        · repeat (first | refine tr_seq_k fun _ _ => ?_ | (refine tr_region ?_; simp only [go_sem, reduceCtorEq, Nat.reduceEqDiff, Nat.reduceLT, ↓reduceIte, w2]) | refine k_of (by assumption) ?_ | refine tr_block ?_ | (refine tr_skip ?_; try simp only [ex_seq]))
          refine tr_loop_k (σ := Nat × List Atm × Nat) (fun q => [(0, .lsl 0 0 l.length 11), (1, iA l.length), (2, cmpF), (6, iA B), (7, iA q.2.2), (8, iA ((q.2.2 + 2 * B : Nat) : Int))]) (fun q => ⟨[⟨false, blC atC q.2.1⟩], hw⟩)
            (fun q => T2 = ps ltA l.length B (q.1 + 1) q.2.1 q.2.2 ∧ q.2.1.length = l.length ∧ q.2.2 ≤ l.length ∧ l.length - q.2.2 ≤ q.1 ∧ ∀ x ∈ q.2.1, AtSz x) (fun q => l.length - q.2.2) (l.length, L, 0) ⟨hT2, hLl, Nat.zero_le _, Nat.le_refl _, hLs⟩ ⟨rfl, rfl, rfl, rfl, rfl, by rw [Nat.zero_add]; rfl, trivial⟩ rfl ?_
          rintro ⟨g, M, a⟩ ⟨hTM, hMl, hal, hg1, hMs⟩ K2 hK2
          dsimp only at hTM hMl hal hg1 hMs ⊢
          have hv : ps ltA l.length B (g + 1) M a = if a + 2 * B ≤ M.length then ps ltA l.length B g (symL ltA l.length M a (a + B) (a + 2 * B)) (a + 2 * B) else if a + B < M.length then symL ltA l.length M a (a + B) M.length else M := rfl
          rw [hv, hMl] at hTM
          clear hv
          have w4 := wrap_addN (show a + B ≤ 1000000000 by omega)
          by_cases c3 : a + 2 * B ≤ l.length
          · rw [if_pos c3] at hTM
            obtain ⟨g, rfl⟩ : ∃ z, g = z + 1 := ⟨g - 1, by omega⟩
            have q3 : decide (((a + 2 * B : Nat) : Int) ≤ ((l.length : Nat) : Int)) = true := decide_eq_true (by omega)
            have cS := sym_gives l.length M a (a + B) (a + 2 * B) hw (by omega) (by omega) (by omega) (by omega) (by omega) hMs
            rw [hMl] at cS
            have hn := symL_len (lt := ltA) l.length M a (a + B) (a + 2 * B)
            have hm : ∀ x ∈ symL ltA l.length M a (a + B) (a + 2 * B), AtSz x := fun x hx => hMs x (symL_mem _ _ _ _ _ hx)
            generalize symL ltA l.length M a (a + B) (a + 2 * B) = M2 at *
            have w5 : IntKind.i64.wrap (((a + 2 * B : Nat) : Int) + ((2 * B : Nat) : Int)) = ((a + 2 * B + 2 * B : Nat) : Int) := by rw [wrap_in (by omega)]; omega
            repeat (first | refine tr_seq_k fun _ _ => ?_ | (refine tr_region ?_; simp only [go_sem, reduceCtorEq, Nat.reduceEqDiff, Nat.reduceLT, ↓reduceIte, q3]) | refine k_of (by assumption) ?_)
            refine tr_cond rfl (fun ht => ?_) (fun hf => ?_)
            · repeat (first | refine tr_seq_k fun _ _ => ?_ | (refine tr_region ?_; simp only [go_sem, reduceCtorEq, Nat.reduceEqDiff, Nat.reduceLT, ↓reduceIte, w2, w4, w5]) | (refine call_givesW (cS) ?_; (try dsimp only); (try simp only [go_sem, reduceCtorEq, Nat.reduceEqDiff, Nat.reduceLT, Nat.reduceLeDiff, Nat.reduceAdd, Nat.reduceMul, Nat.reduceSub, Nat.reduceBEq, ↓reduceIte, w2, w4, w5])) | refine k_of (by assumption) ?_ | refine tr_block ?_ | (refine tr_skip ?_; try simp only [ex_seq]))
              exact hK2 (g, M2, a + 2 * B) _ _ ⟨hTM, by dsimp only; omega, c3, by dsimp only; omega, hm⟩ ⟨⟨rfl, rfl, rfl, rfl, rfl, rfl, trivial⟩, Keep.refl _, rfl, by simp only [lowB, lows_blC]; rfl, Nat.le_refl _, Nat.le_refl _⟩ (by dsimp only; omega)
            · cases hf
          · rw [if_neg c3] at hTM
            have q3 : decide (((a + 2 * B : Nat) : Int) ≤ ((l.length : Nat) : Int)) = false := decide_eq_false (by omega)
            by_cases c4 : a + B < l.length
            · rw [if_pos c4] at hTM
              have q4 : decide (((a + B : Nat) : Int) < ((l.length : Nat) : Int)) = true := decide_eq_true (by omega)
              have cS := sym_gives l.length M a (a + B) l.length hw (by omega) (by omega) (by omega) (by omega) (by omega) hMs
              rw [hMl, ← hTM] at cS
              have hn : T2.length = l.length := by rw [hTM, symL_len, hMl]
              have hm : ∀ x ∈ T2, AtSz x := fun x hx => hMs x (by rw [hTM] at hx; exact symL_mem _ _ _ _ _ hx)
              repeat (first | refine tr_seq_k fun _ _ => ?_ | (refine tr_region ?_; simp only [go_sem, reduceCtorEq, Nat.reduceEqDiff, Nat.reduceLT, ↓reduceIte, q3]) | refine k_of (by assumption) ?_)
              refine tr_cond rfl (fun ht => ?_) (fun hf => ?_)
              · cases ht
              · repeat (first | refine tr_seq_k fun _ _ => ?_ | (refine tr_region ?_; simp only [go_sem, reduceCtorEq, Nat.reduceEqDiff, Nat.reduceLT, ↓reduceIte, w4, q4]) | refine k_of (by assumption) ?_ | (refine tr_exit ?_; try simp only [ex_seq_exit, ex_block_exit, ex_seq, ↓reduceIte]))
                refine tr_cond rfl (fun ht => ?_) (fun hf => ?_)
                · repeat (first | (refine tr_region ?_; simp only [go_sem, reduceCtorEq, Nat.reduceEqDiff, Nat.reduceLT, ↓reduceIte, w3]) | (refine call_givesW (cS) ?_; (try dsimp only); (try simp only [go_sem, reduceCtorEq, Nat.reduceEqDiff, Nat.reduceLT, Nat.reduceLeDiff, Nat.reduceAdd, Nat.reduceMul, Nat.reduceSub, Nat.reduceBEq, ↓reduceIte, w3])) | refine k_of (by assumption) ?_)
                  exact hend hn hm _ _ ⟨⟨rfl, rfl, rfl, rfl, trivial⟩, Keep.refl _, rfl, by simp only [lowB, lows_blC]; rfl, Nat.le_refl _, Nat.le_refl _⟩
                · cases hf
            · rw [if_neg c4] at hTM
              have q4 : decide (((a + B : Nat) : Int) < ((l.length : Nat) : Int)) = false := decide_eq_false (by omega)
              subst hTM
              repeat (first | refine tr_seq_k fun _ _ => ?_ | (refine tr_region ?_; simp only [go_sem, reduceCtorEq, Nat.reduceEqDiff, Nat.reduceLT, ↓reduceIte, q3]) | refine k_of (by assumption) ?_)
              refine tr_cond rfl (fun ht => ?_) (fun hf => ?_)
              · cases ht
              · repeat (first | refine tr_seq_k fun _ _ => ?_ | (refine tr_region ?_; simp only [go_sem, reduceCtorEq, Nat.reduceEqDiff, Nat.reduceLT, ↓reduceIte, w4, q4]) | refine k_of (by assumption) ?_ | (refine tr_exit ?_; try simp only [ex_seq_exit, ex_block_exit, ex_seq, ↓reduceIte]))
                refine tr_cond rfl (fun ht => ?_) (fun hf => ?_)
                · cases ht
                · repeat (first | (refine tr_region ?_; simp only [go_sem, reduceCtorEq, Nat.reduceEqDiff, Nat.reduceLT, ↓reduceIte, w3]) | refine k_of (by assumption) ?_ | (refine tr_skip ?_; try simp only [ex_seq]))
                  exact hend hMl hMs _ _ ⟨⟨rfl, rfl, rfl, rfl, trivial⟩, Keep.refl _, rfl, by simp only [lowB, lows_blC]; rfl, Nat.le_refl _, Nat.le_refl _⟩
        · cases hf
      · have q2 : decide ((B : Int) < ((l.length : Nat) : Int)) = false := decide_eq_false (by omega)
        have hTL : T = L := by
          rw [hTT]
          cases f with
          | zero => rfl
          | succ f => show (if B < L.length then _ else _) = _; rw [if_neg (by omega)]
        repeat (first | refine tr_seq_k fun _ _ => ?_ | (refine tr_region ?_; simp only [go_sem, reduceCtorEq, Nat.reduceEqDiff, Nat.reduceLT, ↓reduceIte, q2]) | refine k_of (by assumption) ?_)
        refine tr_cond rfl (fun ht => ?_) (fun hf => ?_)
        · cases ht
        · repeat ((refine tr_exit ?_; try simp only [ex_seq_exit, ex_block_exit, ↓reduceIte]))
          exact (hQ _ _ [] rfl rfl (by rw [hTL])).1
theorem sort_gives (l : List Atm) (hw : List Hw) (hl : l.length ≤ 1000000) (hsz : ∀ x ∈ l, AtSz x) : GivesW Tryz.prog 58 [.lsl 0 0 l.length 11, cmpF] ⟨[⟨false, blC atC l⟩], hw⟩ (.tup []) ⟨[⟨false, blC atC (srt ltA l)⟩], hw⟩ := by
  have c := stab_gives l hw hl hsz
  rw [stable_law (totK txA)] at c
  refine givesW_of' Tryz.func58 rfl (by kernel_rfl) Tryz.ntmps58 rfl rfl fun Q hQ => ?_
  repeat (first | (refine tr_region ?_; simp only [go_sem, List.getElem?_toArray, reduceCtorEq, Nat.reduceEqDiff, Nat.reduceLT, ↓reduceIte]) | (refine call_givesW (c) ?_; (try dsimp only); (try simp only [go_sem, reduceCtorEq, Nat.reduceEqDiff, Nat.reduceLT, Nat.reduceLeDiff, Nat.reduceAdd, Nat.reduceMul, Nat.reduceSub, Nat.reduceBEq, ↓reduceIte])))
  exact (hQ _ _ [] rfl rfl rfl).1
end Go.Proofs.YtinbfakpjnnagaaGreatDoor
namespace Go.Vs.Sm
variable {T : Type}
def kpN (eq : T → T → Bool) (l : List T) : Nat → List T
  | 0 => []
  | j + 1 => kpN eq l j ++ (match l[j]? with
    | none => []
    | some y => match l[j - 1]? with
      | none => [y]
      | some x => if (0 < j ∧ eq y x = true) then [] else [y])
theorem kpN_first {eq : T → T → Bool} {l : List T} (h : 0 < l.length) : kpN eq l 1 = [l[0]] := by
  unfold kpN kpN
  rw [List.getElem?_eq_getElem h]
  simp []
theorem kpN_next {eq : T → T → Bool} {l : List T} {j : Nat} (h0 : 0 < j) (h : j < l.length) : kpN eq l (j + 1) = if eq l[j] l[j - 1] = true then kpN eq l j else kpN eq l j ++ [l[j]] := by
  rw [kpN, List.getElem?_eq_getElem h, List.getElem?_eq_getElem (by omega)]
  dsimp only
  by_cases he : eq l[j] l[j - 1] = true
  · rw [if_pos ⟨h0, he⟩, if_pos he, List.append_nil]
  · rw [if_neg (fun h => he h.2), if_neg he]
theorem kpN_len (eq : T → T → Bool) (l : List T) : ∀ j, (kpN eq l j).length ≤ j
  | 0 => Nat.le_refl _
  | j + 1 => by
    have ih := kpN_len eq l j
    rw [kpN, List.length_append]
    cases hj : l[j]? with
    | none => show _ + 0 ≤ _; omega
    | some y => cases hq : l[j - 1]? with
      | none => show _ + 1 ≤ _; omega
      | some x =>
        dsimp only
        split
        · show _ + 0 ≤ _; omega
        · show _ + 1 ≤ _; omega
def dfN (eq : T → T → Bool) (l : List T) (j : Nat) : List T := kpN eq l j ++ l.drop (kpN eq l j).length
theorem dfN_len (eq : T → T → Bool) (l : List T) {j : Nat} (hj : j ≤ l.length) : (dfN eq l j).length = l.length := by
  unfold dfN
  have := kpN_len eq l j
  rw [List.length_append, List.length_drop]
  omega
theorem dfN_at (eq : T → T → Bool) (l : List T) {j i : Nat} (hj : j ≤ l.length) (hk : (kpN eq l j).length ≤ i) (hi : i < l.length) : (dfN eq l j)[i]'(by rw [dfN_len eq l hj]; exact hi) = l[i] := by
  unfold dfN
  rw [List.getElem_append_right hk, List.getElem_drop]
  congr 1
  omega
theorem dfN_set {eq : T → T → Bool} {l : List T} {j : Nat} (h0 : 0 < j) (h : j < l.length) (he : eq l[j] l[j - 1] = false) : (dfN eq l j).set (kpN eq l j).length l[j] = dfN eq l (j + 1) := by
  have hl := kpN_len eq l j
  have e : kpN eq l (j + 1) = kpN eq l j ++ [l[j]] := by rw [kpN_next h0 h, if_neg (by rw [he]; decide)]
  unfold dfN
  rw [e, List.set_append_right _ _ (Nat.le_refl _), Nat.sub_self, List.length_append, List.length_singleton, List.append_assoc]
  congr 1
  have hlt : (kpN eq l j).length < l.length := by omega
  rw [List.drop_eq_getElem_cons hlt, List.set_cons_zero]
  rfl
theorem kpN_all {eq : T → T → Bool} {l : List T} : ∀ j, j ≤ l.length → (∀ i (hi : i < l.length), 0 < i → i < j → eq l[i] l[i - 1] = false) → kpN eq l j = l.take j
  | 0, _, _ => rfl
  | j + 1, hj, h => by
    have ih := kpN_all j (by omega) (fun i hi h0 h1 => h i hi h0 (by omega))
    rcases Nat.eq_zero_or_pos j with rfl | h0
    · rw [kpN_first (by omega), List.take_succ_eq_append_getElem (by omega)]
      rfl
    · rw [kpN_next h0 (by omega), if_neg (by rw [h j (by omega) h0 (by omega)]; decide), ih, List.take_succ_eq_append_getElem (by omega)]
/-! ### the same as what is kept of the runs of equals -/
def adjD (eq : T → T → Bool) (p : T) : List T → List T
  | [] => []
  | y :: r => if eq y p = true then adjD eq y r else y :: adjD eq y r
def lastD (p : T) : List T → T
  | [] => p
  | y :: r => lastD y r
theorem lastD_snoc (y : T) : ∀ (p : T) (r : List T), lastD p (r ++ [y]) = y
  | _, [] => rfl
  | p, z :: r => lastD_snoc y z r
theorem adjD_snoc (eq : T → T → Bool) (y : T) : ∀ (p : T) (r : List T), adjD eq p (r ++ [y]) = adjD eq p r ++ (if eq y (lastD p r) = true then [] else [y])
  | p, [] => by
    show (if eq y p = true then [] else [y]) = _
    rfl
  | p, z :: r => by
    have ih := adjD_snoc eq y z r
    show (if eq z p = true then adjD eq z (r ++ [y]) else z :: adjD eq z (r ++ [y])) = (if eq z p = true then adjD eq z r else z :: adjD eq z r) ++ _
    rw [ih]
    split <;> rfl
theorem lastD_get (x : T) (r : List T) : ∀ j (hj : j < (x :: r).length), lastD x (r.take j) = (x :: r)[j]
  | 0, _ => rfl
  | j + 1, hj => by
    have hj' : j < r.length := by simpa using hj
    rw [List.take_succ_eq_append_getElem hj', lastD_snoc]
    rfl
theorem kpN_adj (eq : T → T → Bool) (x : T) (r : List T) : ∀ j, j ≤ r.length → kpN eq (x :: r) (j + 1) = x :: adjD eq x (r.take j)
  | 0, _ => by rw [kpN_first (by simp)]; rfl
  | j + 1, hj => by
    have hj' : j < r.length := by omega
    have ih := kpN_adj eq x r j (by omega)
    rw [kpN_next (by omega) (by simpa using hj'), ih, List.take_succ_eq_append_getElem hj', adjD_snoc, lastD_get x r j (by simp; omega)]
    have e1 : (x :: r)[j + 1]'(by simpa using hj') = r[j] := rfl
    have e2 : (x :: r)[j + 1 - 1]'(by simp; omega) = (x :: r)[j]'(by simp; omega) := rfl
    rw [e1, e2]
    split
    · rw [List.append_nil]
    · rfl
theorem adjD_cm {lt : T → T → Bool} (O : Tot lt) : ∀ (x : T) (r : List T), adjD (eqB lt) x r = cm lt (dropEq lt x r)
  | x, [] => rfl
  | x, y :: r => by
    have ih := adjD_cm O y r
    unfold adjD dropEq
    by_cases h : eqB lt y x = true
    · rw [if_pos h, if_pos h, ih, dropEq_congr O h]
    · rw [if_neg h, if_neg h, cm_cons, ih]
theorem kpN_cm {lt : T → T → Bool} (O : Tot lt) (l : List T) : kpN (eqB lt) l l.length = cm lt l := by
  cases l with
  | nil => rfl
  | cons x r =>
    rw [List.length_cons, kpN_adj _ x r r.length (Nat.le_refl _), List.take_length, adjD_cm O, cm_cons]
theorem mem_merge' {le : T → T → Bool} {x : T} : ∀ {a b : List T}, x ∈ List.merge a b le → x ∈ a ∨ x ∈ b := fun {a b} h => List.mem_merge.1 h
theorem srt_mem {lt : T → T → Bool} {x : T} : ∀ {l : List T}, x ∈ srt lt l → x ∈ l := fun {l} => by
  have key : ∀ (k : Nat) (l : List T), l.length = k → x ∈ srt lt l → x ∈ l := fun k => by
    induction k with
    | zero => intro l hl h; rw [List.eq_nil_of_length_eq_zero hl] at h; exact absurd h (by simp [srt])
    | succ k ih =>
      intro l hl h
      have hne : l ≠ [] := fun e => by rw [e] at hl; cases hl
      rw [← List.dropLast_concat_getLast hne, srt_snoc] at h
      rw [← List.dropLast_concat_getLast hne, List.mem_append]
      rcases mem_merge' h with h | h
      · exact Or.inl (ih _ (by rw [List.length_dropLast]; omega) h)
      · exact Or.inr h
  exact key _ l rfl
end Go.Vs.Sm
namespace Go.Proofs.YtinbfakpjnnagaaGreatDoor
open Go.RowKit Go.Vs Go.Vs.Ab Go.Vs.Sm
set_option maxRecDepth 100000
set_option maxHeartbeats 4000000
theorem cmpA_eq (a b : Atm) : decide (cmpA a b = 0) = eqB ltA a b := by
  have h := cmp_bl (txA a) (txA b)
  show decide (Lib.compareBytes (txA a) (txA b) = 0) = (!bl (txA a) (txA b) && !bl (txA b) (txA a))
  cases e1 : bl (txA a) (txA b) with
  | true =>
    have := h.1.2 e1
    exact decide_eq_false (by omega)
  | false =>
    cases e2 : bl (txA b) (txA a) with
    | true =>
      have := h.2.2 e2
      exact decide_eq_false (by omega)
    | false =>
      refine decide_eq_true ?_
      have a1 : ¬ Lib.compareBytes (txA a) (txA b) < 0 := fun q => by rw [h.1.1 q] at e1; cases e1
      have a2 : ¬ 0 < Lib.compareBytes (txA a) (txA b) := fun q => by rw [h.2.1 q] at e2; cases e2
      omega
def EqA : Atm → Atm → Bool := eqB ltA
abbrev eqF : AV := .fn (.func 61) [] []
theorem eqS_does (a b : Atm) (ha : AtSz a) (hb : AtSz b) : Does Tryz.prog 61 [atA a, atA b] (fun m => (bA (EqA a b), m)) := by
  have c1 := cmpA_does a b ha hb
  have e : decide (cmpA a b = 0) = EqA a b := cmpA_eq a b
  refine does_of' Tryz.func61 rfl (by kernel_rfl) rfl Tryz.ntmps61 rfl rfl fun Q hQ => ?_
  repeat (first | refine tr_seq_k fun _ _ => ?_ | (refine tr_region ?_; simp only [go_sem, reduceCtorEq, Nat.reduceEqDiff, Nat.reduceLT, Nat.reduceLeDiff, Nat.reduceAdd, ↓reduceIte]) | (refine call_of (c1) ?_ ?_; (first | rfl | simp only [go_sem, reduceCtorEq, Nat.reduceEqDiff, Nat.reduceLT, Nat.reduceLeDiff, Nat.reduceAdd, Nat.reduceMul, Nat.reduceSub, Nat.reduceBEq, ↓reduceIte, e, shut_col]); simp only [go_sem, reduceCtorEq, Nat.reduceEqDiff, Nat.reduceLT, ↓reduceIte, e]) | refine k_of (by assumption) ?_ | (refine tr_ret ?_; try simp only [ex_seq_ret, ex_block_ret]))
  refine (hQ _ _ [bA (EqA a b)] ?_ (fun m => ?_)).2 <;> simp only [go_sem, reduceCtorEq, Nat.reduceEqDiff, ↓reduceIte, Tryz.f61,]
theorem zeA13 : tzero Tryz.prog 33 = some (atC z12) := by kernel_rfl
theorem ixLB {lo n k : Nat} (h : k < n) : aIndexL Tryz.prog 34 (.lsl 0 lo n 11) (.c (.v (.int .i64 (k : Int)))) = some (.ptr 0 ((lo + k) * 11)) :=
  idxL (P := Tryz.prog) (size := 11) Tryz.underlying34 sz33 (by decide) (b := 0) (lo := lo) (ik := .i64) h
theorem compact_gives (l : List Atm) (hw : List Hw) (hl : l.length ≤ 1000000) (hsz : ∀ x ∈ l, AtSz x) : ∃ R, GivesW Tryz.prog 60 [.lsl 0 0 l.length 11, eqF] ⟨[⟨false, blC atC l⟩], hw⟩ (.lsl 0 0 (kpN EqA l l.length).length 11) ⟨[⟨false, blC atC (kpN EqA l l.length ++ R)⟩], hw⟩ := by
  by_cases hall : ∀ i (hi : i < l.length), 0 < i → EqA l[i] l[i - 1] = false
  · refine ⟨[], ?_⟩
    rw [List.append_nil, kpN_all l.length (Nat.le_refl _) (fun i hi h0 _ => hall i hi h0), List.take_length]
    by_cases h2 : l.length < 2
    · have q0 : decide (((l.length : Nat) : Int) < 2) = true := decide_eq_true (by omega)
      refine givesW_of' Tryz.func60 rfl (by kernel_rfl) Tryz.ntmps60 rfl rfl fun Q hQ => ?_
      repeat (first | refine tr_seq_k fun _ _ => ?_ | (refine tr_region ?_; simp only [go_sem, List.getElem?_toArray, reduceCtorEq, Nat.reduceEqDiff, Nat.reduceLT, ↓reduceIte, q0]) | refine k_of (by assumption) ?_)
      refine tr_cond rfl (fun ht => ?_) (fun hf => ?_)
      · repeat (first | refine tr_seq_k fun _ _ => ?_ | (refine tr_region ?_; simp only [go_sem, reduceCtorEq, Nat.reduceEqDiff, Nat.reduceLT, ↓reduceIte]) | refine k_of (by assumption) ?_ | (refine tr_ret ?_; try simp only [ex_seq_ret]))
        refine (hQ _ _ [.lsl 0 0 l.length 11] ?_ rfl rfl).2 <;> simp only [go_sem, reduceCtorEq, Nat.reduceEqDiff, ↓reduceIte, Tryz.f60]
      · cases hf
    · have q0 : decide (((l.length : Nat) : Int) < 2) = false := decide_eq_false (by omega)
      refine givesW_of' Tryz.func60 rfl (by kernel_rfl) Tryz.ntmps60 rfl rfl fun Q hQ => ?_
      repeat (first | refine tr_seq_k fun _ _ => ?_ | (refine tr_region ?_; simp only [go_sem, List.getElem?_toArray, reduceCtorEq, Nat.reduceEqDiff, Nat.reduceLT, ↓reduceIte, q0]) | refine k_of (by assumption) ?_)
      refine tr_cond rfl (fun ht => ?_) (fun hf => ?_)
      · cases ht
      · repeat (first | refine tr_seq_k fun _ _ => ?_ | (refine tr_region ?_; simp only [go_sem, reduceCtorEq, Nat.reduceEqDiff, Nat.reduceLT, ↓reduceIte]) | refine k_of (by assumption) ?_ | refine tr_block ?_ | (refine tr_skip ?_; try simp only [ex_seq]))
        refine tr_loop_k (σ := Nat) (fun k => [(0, .lsl 0 0 l.length 11), (1, eqF), (5, iA k)]) (fun k => ⟨[⟨false, blC atC l⟩], hw⟩)
          (fun k => 1 ≤ k ∧ k ≤ l.length) (fun k => l.length - k) 1 ⟨Nat.le_refl _, by omega⟩ ⟨rfl, rfl, rfl, trivial⟩ rfl ?_
        rintro k ⟨hk1, hk⟩ K hK
        by_cases hkl : k < l.length
        · have q1 : decide ((k : Int) < ((l.length : Nat) : Int)) = true := decide_eq_true (by omega)
          have hk2 : k - 1 < l.length := by omega
          have ws := wrap_succ (show k ≤ 1000000000 by omega)
          have wp := wrap_pre (show 0 < k by omega) (by omega)
          have cE := eqS_does l[k] l[k - 1] (hsz _ (List.getElem_mem hkl)) (hsz _ (List.getElem_mem hk2))
          rw [hall k hkl (by omega)] at cE
          have d1 := drLA hkl
          have d2 := drLA hk2
          repeat (first | refine tr_seq_k fun _ _ => ?_ | (refine tr_region ?_; simp only [go_sem, List.getElem?_toArray, reduceCtorEq, Nat.reduceEqDiff, Nat.reduceLT, ↓reduceIte, q1]) | refine k_of (by assumption) ?_)
          refine tr_cond rfl (fun ht => ?_) (fun hf => ?_)
          · repeat (first | refine tr_seq_k fun _ _ => ?_ | (refine tr_draw (id := 6) follows 10000 [10] [0, 1, 2, 3, 4, 5, 6, 7, 8, 9, 10] (by kernel_rfl) ?_; simp only [go_sem, List.getElem?_toArray, reduceCtorEq, Nat.reduceEqDiff, Nat.reduceLT, ↓reduceIte, wp, ixLA hkl, ixLA hk2, d1, d2, fitLA hkl, fitLA hk2]) | (refine call_of (cE) ?_ ?_; (first | rfl | simp only [go_sem, reduceCtorEq, Nat.reduceEqDiff, Nat.reduceLT, Nat.reduceLeDiff, Nat.reduceAdd, Nat.reduceMul, Nat.reduceSub, Nat.reduceBEq, ↓reduceIte, wp, ixLA hkl, ixLA hk2, d1, d2, fitLA hkl, fitLA hk2, shut_col]); simp only [go_sem, Bool.true_or]) | refine k_of (by assumption) ?_ | refine tr_block ?_ | (refine tr_skip ?_; try simp only [ex_seq]))
            refine tr_cond rfl (fun ht => ?_) (fun hf => ?_)
            · cases ht
            · repeat (first | (refine tr_region ?_; simp only [go_sem, reduceCtorEq, Nat.reduceEqDiff, Nat.reduceLT, ↓reduceIte, ws]) | refine k_of (by assumption) ?_ | (refine tr_skip ?_; try simp only [ex_seq, ex_block]))
              exact hK (k + 1) _ _ ⟨by omega, hkl⟩ ⟨⟨rfl, rfl, rfl, trivial⟩, Keep.refl _, rfl, by simp only [lowB, lows_blC]; rfl, Nat.le_refl _, Nat.le_refl _⟩ (by omega)
          · cases hf
        · have q1 : decide ((k : Int) < ((l.length : Nat) : Int)) = false := decide_eq_false (by omega)
          repeat (first | refine tr_seq_k fun _ _ => ?_ | (refine tr_region ?_; simp only [go_sem, List.getElem?_toArray, reduceCtorEq, Nat.reduceEqDiff, Nat.reduceLT, ↓reduceIte, q1]) | refine k_of (by assumption) ?_)
          refine tr_cond rfl (fun ht => ?_) (fun hf => ?_)
          · cases ht
          · repeat (first | refine tr_seq_k fun _ _ => ?_ | (refine tr_region ?_; simp only [go_sem, reduceCtorEq, Nat.reduceEqDiff, Nat.reduceLT, ↓reduceIte]) | refine k_of (by assumption) ?_ | (refine tr_exit ?_; try simp only [ex_seq_exit, ex_block_exit, ex_seq, ↓reduceIte]) | (refine tr_ret ?_; try simp only [ex_seq_ret, ex_block_ret]))
            refine (hQ _ _ [.lsl 0 0 l.length 11] ?_ rfl rfl).2 <;> simp only [go_sem, reduceCtorEq, Nat.reduceEqDiff, ↓reduceIte, Tryz.f60]
  · refine ⟨List.replicate (l.length - (kpN EqA l l.length).length) z12, ?_⟩
    have h2 : ¬ l.length < 2 := fun h => hall fun i hi h0 => by omega
    have q0 : decide (((l.length : Nat) : Int) < 2) = false := decide_eq_false (by omega)
    refine givesW_of' Tryz.func60 rfl (by kernel_rfl) Tryz.ntmps60 rfl rfl fun Q hQ => ?_
    repeat (first | refine tr_seq_k fun _ _ => ?_ | (refine tr_region ?_; simp only [go_sem, List.getElem?_toArray, reduceCtorEq, Nat.reduceEqDiff, Nat.reduceLT, ↓reduceIte, q0]) | refine k_of (by assumption) ?_)
    refine tr_cond rfl (fun ht => ?_) (fun hf => ?_)
    · cases ht
    · repeat (first | refine tr_seq_k fun _ _ => ?_ | (refine tr_region ?_; simp only [go_sem, reduceCtorEq, Nat.reduceEqDiff, Nat.reduceLT, ↓reduceIte]) | refine k_of (by assumption) ?_ | refine tr_block ?_ | (refine tr_skip ?_; try simp only [ex_seq]))
      refine tr_loop_k (σ := Nat) (fun k => [(0, .lsl 0 0 l.length 11), (1, eqF), (5, iA k)]) (fun k => ⟨[⟨false, blC atC l⟩], hw⟩)
        (fun k => 1 ≤ k ∧ k ≤ l.length ∧ ∀ i (hi : i < l.length), 0 < i → i < k → EqA l[i] l[i - 1] = false) (fun k => l.length - k) 1 ⟨Nat.le_refl _, by omega, fun i hi h0 h1 => by omega⟩ ⟨rfl, rfl, rfl, trivial⟩ rfl ?_
      rintro k ⟨hk1, hk, hno⟩ K hK
      by_cases hkl : k < l.length
      · have q1 : decide ((k : Int) < ((l.length : Nat) : Int)) = true := decide_eq_true (by omega)
        have hk2 : k - 1 < l.length := by omega
        have ws := wrap_succ (show k ≤ 1000000000 by omega)
        have wp := wrap_pre (show 0 < k by omega) (by omega)
        have cE := eqS_does l[k] l[k - 1] (hsz _ (List.getElem_mem hkl)) (hsz _ (List.getElem_mem hk2))
        have d1 := drLA hkl
        have d2 := drLA hk2
        cases hE : EqA l[k] l[k - 1] with
        | false =>
          rw [hE] at cE
          repeat (first | refine tr_seq_k fun _ _ => ?_ | (refine tr_region ?_; simp only [go_sem, List.getElem?_toArray, reduceCtorEq, Nat.reduceEqDiff, Nat.reduceLT, ↓reduceIte, q1]) | refine k_of (by assumption) ?_)
          refine tr_cond rfl (fun ht => ?_) (fun hf => ?_)
          · repeat (first | refine tr_seq_k fun _ _ => ?_ | (refine tr_draw (id := 6) follows 10000 [10] [0, 1, 2, 3, 4, 5, 6, 7, 8, 9, 10] (by kernel_rfl) ?_; simp only [go_sem, List.getElem?_toArray, reduceCtorEq, Nat.reduceEqDiff, Nat.reduceLT, ↓reduceIte, wp, ixLA hkl, ixLA hk2, d1, d2, fitLA hkl, fitLA hk2]) | (refine call_of (cE) ?_ ?_; (first | rfl | simp only [go_sem, reduceCtorEq, Nat.reduceEqDiff, Nat.reduceLT, Nat.reduceLeDiff, Nat.reduceAdd, Nat.reduceMul, Nat.reduceSub, Nat.reduceBEq, ↓reduceIte, wp, ixLA hkl, ixLA hk2, d1, d2, fitLA hkl, fitLA hk2, shut_col]); simp only [go_sem, Bool.true_or]) | refine k_of (by assumption) ?_ | refine tr_block ?_ | (refine tr_skip ?_; try simp only [ex_seq]))
            refine tr_cond rfl (fun ht => ?_) (fun hf => ?_)
            · cases ht
            · repeat (first | (refine tr_region ?_; simp only [go_sem, reduceCtorEq, Nat.reduceEqDiff, Nat.reduceLT, ↓reduceIte, ws]) | refine k_of (by assumption) ?_ | (refine tr_skip ?_; try simp only [ex_seq, ex_block]))
              exact hK (k + 1) _ _ ⟨by omega, hkl, fun i hi h0 h1 => by
                by_cases e : i = k
                · subst e; exact hE
                · exact hno i hi h0 (by omega)⟩ ⟨⟨rfl, rfl, rfl, trivial⟩, Keep.refl _, rfl, by simp only [lowB, lows_blC]; rfl, Nat.le_refl _, Nat.le_refl _⟩ (by omega)
          · cases hf
        | true =>
          rw [hE] at cE
          have sl := slL_from (P := Tryz.prog) (size := 11) Tryz.underlying34 sz33 (b := 0) (lo := 0) hk
          rw [Nat.zero_add] at sl
          have hkp : kpN EqA l k = l.take k := kpN_all k hk hno
          have hkp1 : kpN EqA l (k + 1) = l.take k := by rw [kpN_next (by omega) hkl, if_pos hE, hkp]
          have hlen1 : (kpN EqA l (k + 1)).length = k := by rw [hkp1, List.length_take]; omega
          have hdf1 : dfN EqA l (k + 1) = l := by unfold dfN; rw [hlen1, hkp1, List.take_append_drop]
          repeat (first | refine tr_seq_k fun _ _ => ?_ | (refine tr_region ?_; simp only [go_sem, List.getElem?_toArray, reduceCtorEq, Nat.reduceEqDiff, Nat.reduceLT, ↓reduceIte, q1]) | refine k_of (by assumption) ?_)
          refine tr_cond rfl (fun ht => ?_) (fun hf => ?_)
          · repeat (first | refine tr_seq_k fun _ _ => ?_ | (refine tr_draw (id := 6) follows 10000 [10] [0, 1, 2, 3, 4, 5, 6, 7, 8, 9, 10] (by kernel_rfl) ?_; simp only [go_sem, List.getElem?_toArray, reduceCtorEq, Nat.reduceEqDiff, Nat.reduceLT, ↓reduceIte, wp, ixLA hkl, ixLA hk2, d1, d2, fitLA hkl, fitLA hk2]) | (refine call_of (cE) ?_ ?_; (first | rfl | simp only [go_sem, reduceCtorEq, Nat.reduceEqDiff, Nat.reduceLT, Nat.reduceLeDiff, Nat.reduceAdd, Nat.reduceMul, Nat.reduceSub, Nat.reduceBEq, ↓reduceIte, wp, ixLA hkl, ixLA hk2, d1, d2, fitLA hkl, fitLA hk2, shut_col]); simp only [go_sem, Bool.true_or]) | refine k_of (by assumption) ?_ | refine tr_block ?_ | (refine tr_skip ?_; try simp only [ex_seq]))
            refine tr_cond rfl (fun ht => ?_) (fun hf => ?_)
            · repeat (first | refine tr_seq_k fun _ _ => ?_ | (refine tr_region ?_; simp only [go_sem, reduceCtorEq, Nat.reduceEqDiff, Nat.reduceLT, ↓reduceIte, sl]) | refine k_of (by assumption) ?_ | refine tr_block ?_)
              refine tr_loop_k (σ := Nat) (fun q => [(0, .lsl 0 0 l.length 11), (1, eqF), (5, iA (kpN EqA l (k + q)).length), (6, .lsl 0 k (l.length - k) 11), (7, iA q)]) (fun q => ⟨[⟨false, blC atC (dfN EqA l (k + q))⟩], hw⟩)
                (fun q => 1 ≤ q ∧ k + q ≤ l.length ∧ (kpN EqA l (k + q)).length + 1 ≤ k + q) (fun q => l.length - (k + q)) 1 ⟨Nat.le_refl _, by omega, by omega⟩ ⟨rfl, rfl, by rw [hlen1]; rfl, rfl, rfl, trivial⟩ (by rw [hdf1]) ?_
              rintro q ⟨hq1, hq, hkl2⟩ K2 hK2
              have hKq := hK2 (q + 1)
              by_cases hql : k + q < l.length
              · have q2 : decide ((q : Int) < ((l.length - k : Nat) : Int)) = true := decide_eq_true (by omega)
                have ws2 := wrap_succ (show q ≤ 1000000000 by omega)
                have wp2 := wrap_pre (show 0 < q by omega) (by omega)
                have wk := wrap_succ (show (kpN EqA l (k + q)).length ≤ 1000000000 by omega)
                have hq2 : k + q - 1 < l.length := by omega
                have hdl := dfN_len EqA l hq
                have b1 : k + q < (dfN EqA l (k + q)).length := by rw [hdl]; exact hql
                have b2 : k + q - 1 < (dfN EqA l (k + q)).length := by rw [hdl]; exact hq2
                have b3 : (kpN EqA l (k + q)).length < (dfN EqA l (k + q)).length := by rw [hdl]; omega
                have b3' : (kpN EqA l (k + q)).length < l.length := by omega
                have d3 := drLA b1
                have d4 := drLA b2
                rw [dfN_at EqA l hq (by omega) hql] at d3
                rw [dfN_at EqA l hq (by omega) hq2] at d4
                have i1 := ixLB (lo := k) (show q < l.length - k by omega)
                have i2 := ixLB (lo := k) (show q - 1 < l.length - k by omega)
                rw [show k + (q - 1) = k + q - 1 by omega] at i2
                have cF := eqS_does l[k + q] l[k + q - 1] (hsz _ (List.getElem_mem hql)) (hsz _ (List.getElem_mem hq2))
                have hnx := kpN_next (eq := EqA) (show 0 < k + q by omega) hql
                have hset := dfN_set (eq := EqA) (show 0 < k + q by omega) hql
                have hassoc : k + (q + 1) = k + q + 1 := rfl
                rw [hassoc] at hKq
                cases hG : EqA l[k + q] l[k + q - 1] with
                | true =>
                  rw [hG] at cF hnx
                  have hnx : kpN EqA l (k + q + 1) = kpN EqA l (k + q) := hnx
                  have hdf : dfN EqA l (k + q + 1) = dfN EqA l (k + q) := by unfold dfN; rw [hnx]
                  rw [hnx, hdf] at hKq
                  repeat (first | refine tr_seq_k fun _ _ => ?_ | (refine tr_region ?_; simp only [go_sem, List.getElem?_toArray, reduceCtorEq, Nat.reduceEqDiff, Nat.reduceLT, ↓reduceIte, q2]) | refine k_of (by assumption) ?_)
                  refine tr_cond rfl (fun ht => ?_) (fun hf => ?_)
                  · repeat (first | refine tr_seq_k fun _ _ => ?_ | (refine tr_draw (id := 11) follows 10000 [10] [0, 1, 2, 3, 4, 5, 6, 7, 8, 9, 10, 11] (by kernel_rfl) ?_; simp only [go_sem, List.getElem?_toArray, reduceCtorEq, Nat.reduceEqDiff, Nat.reduceLT, ↓reduceIte, wp2, i1, i2, d3, d4, fitLA b1, fitLA b2]) | (refine call_of (cF) ?_ ?_; (first | rfl | simp only [go_sem, reduceCtorEq, Nat.reduceEqDiff, Nat.reduceLT, Nat.reduceLeDiff, Nat.reduceAdd, Nat.reduceMul, Nat.reduceSub, Nat.reduceBEq, ↓reduceIte, wp2, i1, i2, d3, d4, fitLA b1, fitLA b2, shut_col]); simp only [go_sem, reduceCtorEq, Nat.reduceEqDiff, Nat.reduceLT, ↓reduceIte, Bool.true_or]) | refine k_of (by assumption) ?_ | refine tr_block ?_ | (refine tr_skip ?_; try simp only [ex_seq]))
                    refine tr_cond rfl (fun ht => ?_) (fun hf => ?_)
                    · cases ht
                    · repeat (first | (refine tr_region ?_; simp only [go_sem, reduceCtorEq, Nat.reduceEqDiff, Nat.reduceLT, ↓reduceIte, ws2]) | refine k_of (by assumption) ?_ | (refine tr_skip ?_; try simp only [ex_seq, ex_block]))
                      exact hKq _ _ ⟨by omega, hql, by omega⟩ ⟨⟨rfl, rfl, rfl, rfl, rfl, trivial⟩, Keep.refl _, rfl, by simp only [lowB, lows_blC]; rfl, Nat.le_refl _, Nat.le_refl _⟩ (by omega)
                  · cases hf
                | false =>
                  rw [hG] at cF hnx
                  have hnx : kpN EqA l (k + q + 1) = kpN EqA l (k + q) ++ [l[k + q]] := hnx
                  have hle : (kpN EqA l (k + q + 1)).length = (kpN EqA l (k + q)).length + 1 := by rw [hnx, List.length_append]; rfl
                  have st := setLA b3 l[k + q]
                  rw [hset hG] at st
                  rw [hle] at hKq
                  repeat (first | refine tr_seq_k fun _ _ => ?_ | (refine tr_region ?_; simp only [go_sem, List.getElem?_toArray, reduceCtorEq, Nat.reduceEqDiff, Nat.reduceLT, ↓reduceIte, q2]) | refine k_of (by assumption) ?_)
                  refine tr_cond rfl (fun ht => ?_) (fun hf => ?_)
                  · repeat (first | refine tr_seq_k fun _ _ => ?_ | (refine tr_draw (id := 11) follows 10000 [10] [0, 1, 2, 3, 4, 5, 6, 7, 8, 9, 10, 11] (by kernel_rfl) ?_; simp only [go_sem, List.getElem?_toArray, reduceCtorEq, Nat.reduceEqDiff, Nat.reduceLT, ↓reduceIte, wp2, i1, i2, d3, d4, fitLA b1, fitLA b2]) | (refine call_of (cF) ?_ ?_; (first | rfl | simp only [go_sem, reduceCtorEq, Nat.reduceEqDiff, Nat.reduceLT, Nat.reduceLeDiff, Nat.reduceAdd, Nat.reduceMul, Nat.reduceSub, Nat.reduceBEq, ↓reduceIte, wp2, i1, i2, d3, d4, fitLA b1, fitLA b2, shut_col]); simp only [go_sem, reduceCtorEq, Nat.reduceEqDiff, Nat.reduceLT, ↓reduceIte, Bool.true_or]) | refine k_of (by assumption) ?_ | refine tr_block ?_ | (refine tr_skip ?_; try simp only [ex_seq]))
                    refine tr_cond rfl (fun ht => ?_) (fun hf => ?_)
                    · repeat (first | refine tr_seq_k fun _ _ => ?_ | (refine tr_region ?_; simp only [go_sem, reduceCtorEq, Nat.reduceEqDiff, Nat.reduceLT, Nat.reduceAdd, ↓reduceIte, i1, d3, fitLA b1, ixLA b3', fitLA b3, st, ws2, wk]) | refine k_of (by assumption) ?_)
                      exact hKq _ _ ⟨by omega, hql, by omega⟩ ⟨⟨rfl, rfl, rfl, rfl, rfl, trivial⟩, Keep.refl _, rfl, by simp only [lowB, lows_blC]; rfl, Nat.le_refl _, Nat.le_refl _⟩ (by omega)
                    · cases hf
                  · cases hf
              · have q2 : decide ((q : Int) < ((l.length - k : Nat) : Int)) = false := decide_eq_false (by omega)
                have hqe : k + q = l.length := by omega
                rw [hqe] at hkl2 ⊢
                have hle := kpN_len EqA l l.length
                have hdl := dfN_len EqA l (Nat.le_refl l.length)
                have s1 := slL_from (P := Tryz.prog) (size := 11) Tryz.underlying34 sz33 (b := 0) (lo := 0) hle
                rw [Nat.zero_add] at s1
                have s2 := slL_to (P := Tryz.prog) (size := 11) Tryz.underlying34 sz33 (b := 0) (lo := 0) hle
                have cl := clear_blC (P := Tryz.prog) (enc := atC) (size := 11) (fun _ => rfl) (by decide) Tryz.underlying34 zeA13 (l := dfN EqA l l.length) (i := (kpN EqA l l.length).length) (by omega) (hw := hw)
                rw [hdl, show (dfN EqA l l.length).take (kpN EqA l l.length).length = kpN EqA l l.length from List.take_left' rfl] at cl
                repeat (first | refine tr_seq_k fun _ _ => ?_ | (refine tr_region ?_; simp only [go_sem, List.getElem?_toArray, reduceCtorEq, Nat.reduceEqDiff, Nat.reduceLT, ↓reduceIte, q2]) | refine k_of (by assumption) ?_)
                refine tr_cond rfl (fun ht => ?_) (fun hf => ?_)
                · cases ht
                · repeat (first | refine tr_seq_k fun _ _ => ?_ | (refine tr_region ?_; simp only [go_sem, reduceCtorEq, Nat.reduceEqDiff, Nat.reduceLT, ↓reduceIte, s1, s2, cl]) | refine k_of (by assumption) ?_ | (refine tr_exit ?_; try simp only [ex_seq_exit, ex_block_exit, ex_seq, ↓reduceIte]) | (refine tr_ret ?_; try simp only [ex_seq_ret, ex_block_ret]))
                  refine (hQ _ _ [.lsl 0 0 (kpN EqA l l.length).length 11] ?_ rfl rfl).2 <;> simp only [go_sem, reduceCtorEq, Nat.reduceEqDiff, ↓reduceIte, Tryz.f60]
            · cases hf
          · cases hf
      · exact absurd (fun i hi h0 => hno i hi h0 (by omega)) hall
end Go.Proofs.YtinbfakpjnnagaaGreatDoor
namespace Go.Proofs.YtinbfakpjnnagaaGreatDoor
open Go.RowKit Go.Vs Go.Vs.Ab Go.Vs.Sm
set_option maxRecDepth 100000
set_option maxHeartbeats 4000000
/-! ### nothing to sort -/
abbrev slZ : AV := .c (.sl true 0 [])
theorem ins0_does : Does Tryz.prog 92 [slZ, iA 0, iA 0, cmpF] (fun m => (.tup [], m)) := by
  have w1 : IntKind.i64.wrap ((0 : Int) + 1) = 1 := by decide
  have w2 : IntKind.i64.wrap 1 = 1 := by decide
  have q1 : decide ((1 : Int) < 0) = false := by decide
  refine does_of' Tryz.func92 rfl (by kernel_rfl) rfl Tryz.ntmps92 rfl rfl fun Q hQ => ?_
  repeat (first | refine tr_seq_k fun _ _ => ?_ | (refine tr_region ?_; simp only [go_sem, reduceCtorEq, Nat.reduceEqDiff, Nat.reduceLT, Nat.reduceAdd, ↓reduceIte, w1]) | refine k_of (by assumption) ?_ | refine tr_block ?_)
  refine tr_loop_k (σ := Unit) (fun _ => [(2, iA 0), (8, iA 1)]) (fun _ => ⟨[], []⟩) (fun _ => True) (fun _ => 0) () trivial ⟨rfl, rfl, trivial⟩ rfl ?_
  rintro _ _ K hK
  repeat (first | refine tr_seq_k fun _ _ => ?_ | (refine tr_region ?_; simp only [go_sem, Nat.reduceEqDiff, Nat.reduceLT, ↓reduceIte, q1]) | refine k_of (by assumption) ?_)
  refine tr_cond rfl (fun ht => ?_) (fun hf => ?_)
  · cases ht
  · repeat ((refine tr_exit ?_; try simp only [ex_seq_exit, ex_block_exit, ↓reduceIte]))
    exact (hQ _ _ [] rfl (fun m => rfl)).1
theorem stab0_does : Does Tryz.prog 79 [slZ, iA 0, cmpF] (fun m => (.tup [], m)) := by
  have c1 := ins0_does
  have q1 : decide ((20 : Int) ≤ 0) = false := by decide
  have q2 : decide ((20 : Int) < 0) = false := by decide
  refine does_of' Tryz.func79 rfl (by kernel_rfl) rfl Tryz.ntmps79 rfl rfl fun Q hQ => ?_
  repeat (first | refine tr_seq_k fun _ _ => ?_ | (refine tr_region ?_; simp only [go_sem, reduceCtorEq, Nat.reduceEqDiff, Nat.reduceLT, Nat.reduceAdd, ↓reduceIte]) | refine k_of (by assumption) ?_ | refine tr_block ?_)
  refine tr_loop_k (σ := Unit) (fun _ => [(0, slZ), (1, iA 0), (2, cmpF), (6, iA 20), (7, iA 0), (8, iA 20)]) (fun _ => ⟨[], []⟩) (fun _ => True) (fun _ => 0) () trivial ⟨rfl, rfl, rfl, rfl, rfl, rfl, trivial⟩ rfl ?_
  rintro _ _ K hK
  repeat (first | refine tr_seq_k fun _ _ => ?_ | (refine tr_region ?_; simp only [go_sem, reduceCtorEq, Nat.reduceEqDiff, Nat.reduceLT, ↓reduceIte, q1]) | refine k_of (by assumption) ?_)
  refine tr_cond rfl (fun ht => ?_) (fun hf => ?_)
  · cases ht
  · repeat (first | refine tr_seq_k fun _ _ => ?_ | (refine tr_region ?_; simp only [go_sem, reduceCtorEq, Nat.reduceEqDiff, Nat.reduceLT, ↓reduceIte]) | (refine call_of (c1) ?_ ?_; (first | rfl | simp only [go_sem, reduceCtorEq, Nat.reduceEqDiff, Nat.reduceLT, Nat.reduceLeDiff, Nat.reduceAdd, Nat.reduceMul, Nat.reduceSub, Nat.reduceBEq, ↓reduceIte, shut_col]); simp only [go_sem]) | refine k_of (by assumption) ?_ | refine tr_block ?_ | (refine tr_exit ?_; try simp only [ex_seq_exit, ex_block_exit, ex_seq, ↓reduceIte]))
    refine tr_loop_k (σ := Unit) (fun _ => [(1, iA 0), (6, iA 20)]) (fun _ => ⟨[], []⟩) (fun _ => True) (fun _ => 0) () trivial ⟨rfl, rfl, trivial⟩ rfl ?_
    rintro _ _ K hK
    repeat (first | refine tr_seq_k fun _ _ => ?_ | (refine tr_region ?_; simp only [go_sem, Nat.reduceEqDiff, Nat.reduceLT, ↓reduceIte, q2]) | refine k_of (by assumption) ?_)
    refine tr_cond rfl (fun ht => ?_) (fun hf => ?_)
    · cases ht
    · repeat ((refine tr_exit ?_; try simp only [ex_seq_exit, ex_block_exit, ↓reduceIte]))
      exact (hQ _ _ [] rfl (fun m => rfl)).1
theorem sort0_does : Does Tryz.prog 58 [slZ, cmpF] (fun m => (.tup [], m)) := by
  have c1 := stab0_does
  refine does_of' Tryz.func58 rfl (by kernel_rfl) rfl Tryz.ntmps58 rfl rfl fun Q hQ => ?_
  repeat (first | (refine tr_region ?_; simp only [go_sem, List.getElem?_toArray, reduceCtorEq, Nat.reduceEqDiff, Nat.reduceLT, ↓reduceIte]) | (refine call_of (c1) ?_ ?_; (first | rfl | simp only [go_sem, reduceCtorEq, Nat.reduceEqDiff, Nat.reduceLT, Nat.reduceLeDiff, Nat.reduceAdd, Nat.reduceMul, Nat.reduceSub, Nat.reduceBEq, ↓reduceIte, shut_col]); simp only [go_sem]))
  exact (hQ _ _ [] rfl (fun m => rfl)).1
theorem compact0_does : Does Tryz.prog 60 [slZ, eqF] (fun m => (slZ, m)) := by
  have q1 : decide (((0 : Nat) : Int) < 2) = true := by decide
  refine does_of' Tryz.func60 rfl (by kernel_rfl) rfl Tryz.ntmps60 rfl rfl fun Q hQ => ?_
  repeat (first | refine tr_seq_k fun _ _ => ?_ | (refine tr_region ?_; simp only [go_sem, List.getElem?_toArray, reduceCtorEq, Nat.reduceEqDiff, Nat.reduceLT, ↓reduceIte, q1]) | refine k_of (by assumption) ?_)
  refine tr_cond rfl (fun ht => ?_) (fun hf => ?_)
  · repeat (first | refine tr_seq_k fun _ _ => ?_ | (refine tr_region ?_; simp only [go_sem, reduceCtorEq, Nat.reduceEqDiff, Nat.reduceLT, ↓reduceIte]) | refine k_of (by assumption) ?_ | (refine tr_ret ?_; try simp only [ex_seq_ret]))
    refine (hQ _ _ [slZ] ?_ (fun m => rfl)).2 <;> simp only [go_sem, reduceCtorEq, Nat.reduceEqDiff, ↓reduceIte, Tryz.f60]
  · cases hf
/-! ### order.Sorted -/
def srtA (l : List Atm) : List Atm := cm ltA (srt ltA l)
theorem sorted_does (l : List Atm) (ex : Bool) (hl : l.length ≤ 1000000) (hsz : ∀ x ∈ l, AtSz x) : Does Tryz.prog 34 [.c (slC atC ex l)] (fun m => (.c (slC atC l.isEmpty (srtA l)), m)) := by
  by_cases hne : l = []
  · subst hne
    have c1 : Does Tryz.prog 56 [.c (slC atC ex ([] : List Atm))] (fun m => (slZ, { m with hw := m.hw ++ [] })) := cloneA_own [] ex (by simp)
    have c2 := sort0_does
    have c3 := compact0_does
    refine does_of' Tryz.func34 rfl (by kernel_rfl) rfl Tryz.ntmps34 rfl rfl fun Q hQ => ?_
    repeat (first | refine tr_seq_k fun _ _ => ?_ | (refine tr_region ?_; simp only [go_sem, reduceCtorEq, Nat.reduceEqDiff, Nat.reduceLT, ↓reduceIte, List.append_nil]) | (refine call_of (c1) ?_ ?_; (first | rfl | simp only [go_sem, reduceCtorEq, Nat.reduceEqDiff, Nat.reduceLT, Nat.reduceLeDiff, Nat.reduceAdd, Nat.reduceMul, Nat.reduceSub, Nat.reduceBEq, ↓reduceIte, List.append_nil, shut_col]); simp only [go_sem, List.append_nil]) | (refine call_of (c2) ?_ ?_; (first | rfl | simp only [go_sem, reduceCtorEq, Nat.reduceEqDiff, Nat.reduceLT, Nat.reduceLeDiff, Nat.reduceAdd, Nat.reduceMul, Nat.reduceSub, Nat.reduceBEq, ↓reduceIte, List.append_nil, shut_col]); simp only [go_sem]) | (refine call_of (c3) ?_ ?_; (first | rfl | simp only [go_sem, reduceCtorEq, Nat.reduceEqDiff, Nat.reduceLT, Nat.reduceLeDiff, Nat.reduceAdd, Nat.reduceMul, Nat.reduceSub, Nat.reduceBEq, ↓reduceIte, List.append_nil, shut_col]); simp only [go_sem]) | refine k_of (by assumption) ?_ | (refine tr_ret ?_; try simp only [ex_seq_ret, ex_block_ret]))
    refine (hQ _ _ [slZ] ?_ (fun m => rfl)).2 <;> simp only [go_sem, reduceCtorEq, ↓reduceIte, Tryz.f34]
  · have c1 := cloneA_own l ex hl
    have e : freshA atC 33 11 l = fun m => (.own m.hw.length l.length (l.flatMap atC), { m with hw := m.hw ++ [⟨l.length, 33, 11⟩] }) := by
      funext m
      unfold freshA
      rw [colA_ne atC _ hne, colH_ne _ _ hne]
    rw [e] at c1
    clear e
    have c2 : Gives Tryz.prog 56 [.c (slC atC ex l)] ⟨[], []⟩ (.lsl 0 0 l.length 11) ⟨[⟨false, blC atC l⟩], []⟩ := c1.lsl (args := [.c (slC atC ex l)]) rfl (k := 0) rfl (by rfl) (vals_flat vals_atC l) ⟨[], []⟩
    have c3 := sort_gives l [] hl hsz
    have hn := srt_len ltA l.length l rfl
    have hm : ∀ x ∈ srt ltA l, AtSz x := fun x hx => hsz x (srt_mem hx)
    obtain ⟨R, c4⟩ := compact_gives (srt ltA l) [] (by omega) hm
    have c4 := c4.freeze (ds := (kpN EqA (srt ltA l) (srt ltA l).length ++ R).flatMap atC) rfl
    rw [Nat.zero_mul, List.drop_zero, take_flat (enc := atC) (size := 11) (fun _ => rfl), List.take_left' rfl, show kpN EqA (srt ltA l) (srt ltA l).length = srtA l from kpN_cm (totK txA) _, hn] at c4
    have hie : l.isEmpty = false := by cases l with
      | nil => exact absurd rfl hne
      | cons => rfl
    rw [hie]
    clear c1
    refine does_of' Tryz.func34 rfl (by kernel_rfl) rfl Tryz.ntmps34 rfl rfl fun Q hQ => ?_
    repeat (first | refine tr_seq_k fun _ _ => ?_ | (refine tr_region ?_; simp only [go_sem, reduceCtorEq, Nat.reduceEqDiff, Nat.reduceLT, ↓reduceIte]) | (refine call_gives (c2) ?_; (try dsimp only); (try simp only [go_sem, reduceCtorEq, Nat.reduceEqDiff, Nat.reduceLT, Nat.reduceLeDiff, Nat.reduceAdd, Nat.reduceMul, Nat.reduceSub, Nat.reduceBEq, ↓reduceIte])) | (refine call_givesW (c3) ?_; (try dsimp only); (try simp only [go_sem, reduceCtorEq, Nat.reduceEqDiff, Nat.reduceLT, Nat.reduceLeDiff, Nat.reduceAdd, Nat.reduceMul, Nat.reduceSub, Nat.reduceBEq, ↓reduceIte])) | (refine call_givesW (c4) ?_; (try dsimp only); (try simp only [go_sem])) | refine k_of (by assumption) ?_ | (refine tr_ret ?_; try simp only [ex_seq_ret, ex_block_ret]))
    refine (hQ _ _ [.c (slC atC false (srtA l))] ?_ (fun m => rfl)).2 <;> simp only [go_sem, reduceCtorEq, ↓reduceIte, Tryz.f34]
end Go.Proofs.YtinbfakpjnnagaaGreatDoor
namespace Go.Proofs.YtinbfakpjnnagaaGreatDoor
open Go.RowKit Go.Vs Go.Vs.Ab
set_option maxRecDepth 100000
set_option maxHeartbeats 4000000
def fmStep (acc : List Atm) (x : Atm) : List Atm := if formA x ∈ acc then acc else acc ++ [formA x]
def fdist (l : List Atm) : List Atm := l.foldl fmStep []
theorem fdist_next {l : List Atm} {k : Nat} (h : k < l.length) : fdist (l.take (k + 1)) = fmStep (fdist (l.take k)) l[k] := by
  unfold fdist
  rw [List.take_succ_eq_append_getElem h, List.foldl_append]
  rfl
theorem fdist_len : ∀ (l : List Atm) (acc : List Atm), (l.foldl fmStep acc).length ≤ acc.length + l.length
  | [], acc => by simp
  | x :: l, acc => by
    have := fdist_len l (fmStep acc x)
    have h2 : (fmStep acc x).length ≤ acc.length + 1 := by
      unfold fmStep
      split <;> simp
    rw [List.foldl_cons, List.length_cons]
    omega
theorem fdist_le (l : List Atm) : (fdist l).length ≤ l.length := by
  have := fdist_len l []
  simpa [fdist] using this
theorem fdist_mem : ∀ (l acc : List Atm) {x : Atm}, x ∈ l.foldl fmStep acc ↔ x ∈ acc ∨ ∃ a ∈ l, x = formA a
  | [], acc, x => by simp
  | a :: l, acc, x => by
    rw [List.foldl_cons, fdist_mem l]
    unfold fmStep
    split
    · rename_i h
      constructor
      · rintro (h1 | ⟨b, h1, h2⟩)
        · exact Or.inl h1
        · exact Or.inr ⟨b, List.mem_cons_of_mem _ h1, h2⟩
      · rintro (h1 | ⟨b, h1, h2⟩)
        · exact Or.inl h1
        · rcases List.mem_cons.1 h1 with rfl | h1
          · exact Or.inl (h2 ▸ h)
          · exact Or.inr ⟨b, h1, h2⟩
    · constructor
      · rintro (h1 | ⟨b, h1, h2⟩)
        · rcases List.mem_append.1 h1 with h1 | h1
          · exact Or.inl h1
          · rw [List.mem_singleton] at h1
            exact Or.inr ⟨a, List.mem_cons_self, h1⟩
        · exact Or.inr ⟨b, List.mem_cons_of_mem _ h1, h2⟩
      · rintro (h1 | ⟨b, h1, h2⟩)
        · exact Or.inl (List.mem_append_left _ h1)
        · rcases List.mem_cons.1 h1 with rfl | h1
          · exact Or.inl (List.mem_append_right _ (List.mem_singleton.2 h2))
          · exact Or.inr ⟨b, h1, h2⟩
theorem mem_fdist {l : List Atm} {x : Atm} : x ∈ fdist l ↔ ∃ a ∈ l, x = formA a := by
  unfold fdist
  rw [fdist_mem]
  simp
theorem setArg_arg (b : Atm) {k j : Nat} (hk : k < 4) (hj : j < 4) (t : Tm) : (Atm.setArg b k t).arg j = if j = k then t else b.arg j := by
  obtain rfl | rfl | rfl | rfl : k = 0 ∨ k = 1 ∨ k = 2 ∨ k = 3 := by omega
  all_goals obtain rfl | rfl | rfl | rfl : j = 0 ∨ j = 1 ∨ j = 2 ∨ j = 3 := by omega
  all_goals rfl
theorem formK_arg (a : Atm) : ∀ k, k ≤ 4 → ∀ j, j < 4 → (formK a k).arg j = if j < k then vt j else ⟨false, ⟨#[]⟩⟩
  | 0, _, j, hj => by
    rw [if_neg (Nat.not_lt_zero j)]
    obtain rfl | rfl | rfl | rfl : j = 0 ∨ j = 1 ∨ j = 2 ∨ j = 3 := by omega
    all_goals rfl
  | k + 1, hk, j, hj => by
    show (Atm.setArg (formK a k) k (vt k)).arg j = _
    rw [setArg_arg _ (by omega) hj, formK_arg a k (by omega) j hj]
    by_cases h : j = k
    · subst h
      rw [if_pos rfl, if_pos (Nat.lt_succ_self j)]
    · rw [if_neg h]
      by_cases h2 : j < k
      · rw [if_pos h2, if_pos (by omega)]
      · rw [if_neg h2, if_neg (by omega)]
theorem formK_rest (a : Atm) : ∀ k, k ≤ 4 → (formK a k).says = a.says ∧ (formK a k).pred = a.pred ∧ (formK a k).n = a.n
  | 0, _ => ⟨rfl, rfl, rfl⟩
  | k + 1, hk => by
    obtain ⟨h1, h2, h3⟩ := formK_rest a k (by omega)
    rw [← h1, ← h2, ← h3]
    have : k = 0 ∨ k = 1 ∨ k = 2 ∨ k = 3 := by omega
    show (Atm.setArg (formK a k) k (vt k)).says = _ ∧ (Atm.setArg (formK a k) k (vt k)).pred = _ ∧ (Atm.setArg (formK a k) k (vt k)).n = _
    generalize formK a k = b
    obtain rfl | rfl | rfl | rfl := this
    all_goals exact ⟨rfl, rfl, rfl⟩
theorem arg_over {a : Atm} {k : Nat} (h : 4 ≤ k) : a.arg k = a.arg 3 := by
  match k, h with
  | k + 4, _ => rfl
theorem formA_sz {a : Atm} (h : AtSz a) : AtSz (formA a) := by
  obtain ⟨h1, h2, h3⟩ := formK_rest a a.count a.count_le
  have h4 : ∀ k, k < 4 → ((formA a).arg k).name.size ≤ 2 := fun k hk => by
    rw [show (formA a).arg k = _ from formK_arg a a.count a.count_le k hk]
    split
    · exact Nat.le_refl _
    · exact Nat.zero_le _
  refine ⟨by rw [show (formA a).says = a.says from h1]; exact h.1, by rw [show (formA a).pred = a.pred from h2]; exact h.2.1, fun k => ?_⟩
  by_cases hk : k < 4
  · exact Nat.le_trans (h4 k hk) (by decide)
  · rw [arg_over (by omega)]
    exact Nat.le_trans (h4 3 (by decide)) (by decide)
theorem atomsF_sz {p : Pol} (h : Lt13 p) : ∀ a ∈ atomsF p, AtSz a := fun a ha => by
  unfold atomsF at ha
  obtain ⟨c, hc, ha⟩ := List.mem_flatMap.1 ha
  obtain ⟨q1, q2, _⟩ := cls_sz h c hc
  rcases List.mem_cons.1 ha with rfl | ha
  · exact q1
  · exact q2 a ha
theorem atomsF_len {p : Pol} (h : Lt13 p) : (atomsF p).length ≤ 1540 := by
  have h1 := atomsK_len (l := clausesF p) (fun c hc => (cls_sz h c hc).2.2) (clausesF p).length (Nat.le_refl _)
  have h2 : (clausesF p).length ≤ 140 := by
    have := clauses_len p
    have := h.rn
    have := h.gn
    omega
  unfold atomsK at h1
  rw [List.take_length] at h1
  show ((clausesF p).flatMap _).length ≤ _
  omega
def formsF (p : Pol) : List Atm := srtA (fdist (atomsF p))
theorem forms_does {p : Pol} (h : Lt13 p) : Does Tryz.prog 16 [poA p] (fun m => (.c (slC atC (atomsF p).isEmpty (formsF p)), m)) := by
  have cC := (atoms_does h).shut
  have hsz := atomsF_sz h
  have hll := atomsF_len h
  unfold formsF
  generalize atomsF p = L at *
  refine does_of' Tryz.func16 rfl (by kernel_rfl) rfl Tryz.ntmps16 rfl rfl fun Q hQ => ?_
  repeat (first | refine tr_seq_k fun _ _ => ?_ | (refine tr_region ?_; simp only [go_sem, List.getElem?_toArray, reduceCtorEq, Nat.reduceEqDiff, Nat.reduceLT, Nat.reduceLeDiff, Nat.reduceAdd, ↓reduceIte]) | (refine call_of (cC) ?_ ?_; (first | rfl | simp only [go_sem, reduceCtorEq, Nat.reduceEqDiff, Nat.reduceLT, Nat.reduceLeDiff, Nat.reduceAdd, Nat.reduceMul, Nat.reduceSub, Nat.reduceBEq, ↓reduceIte, shut_col]); simp only [go_sem, reduceCtorEq, Nat.reduceEqDiff, Nat.reduceLT, ↓reduceIte]) | refine k_of (by assumption) ?_ | refine tr_block ?_)
  refine tr_loop_k (σ := Nat) (fun k => [(3, colA atC 0 (fdist (L.take k))), (4, .mapp 1), (12, .c (slC atC L.isEmpty L)), (13, iA L.length), (14, iA k)]) (fun k => ⟨[⟨false, [.c (slC stC p.e1 p.prin), .c (slC prC p.e2 p.preds), .c (slC clC p.e3 p.clears), iA p.quota, iA p.budget, .c (slC ruC p.e4 p.rules), .c (slC grC p.e5 p.grants)]⟩, ⟨false, [.ent (atEs (fdist (L.take k)))]⟩], colH 33 11 (fdist (L.take k))⟩)
    (fun k => k ≤ L.length) (fun k => L.length - k) 0 (Nat.zero_le _) ⟨rfl, rfl, rfl, rfl, rfl, trivial⟩ rfl ?_
  rintro k hk K hK
  repeat (first | refine tr_seq_k fun _ _ => ?_ | (refine tr_region ?_; simp only [go_sem, Nat.reduceEqDiff, Nat.reduceLT, ↓reduceIte]) | refine k_of (by assumption) ?_)
  refine tr_cond rfl (fun ht => ?_) (fun hf => ?_)
  · have hlt : k < L.length := by simpa using ht
    have ws := wrap_succ (show k ≤ 1000000000 by omega)
    have ix := idxA12 (ex := L.isEmpty) hlt
    have hnx := fdist_next hlt
    have hdl := fdist_le (L.take k)
    rw [List.length_take] at hdl
    generalize L[k] = x at *
    have cF := form_does x
    by_cases hm : formA x ∈ fdist (L.take k)
    · obtain ⟨j, lk⟩ := at_some hm (atEs (fdist (L.take k))).isEmpty
      rw [fmStep, if_pos hm] at hnx
      repeat (first | refine tr_seq_k fun _ _ => ?_ | (refine tr_region ?_; simp only [go_sem, Nat.reduceEqDiff, Nat.reduceLT, Nat.reduceLeDiff, Nat.reduceAdd, ↓reduceIte, ix, atC, lk, avU]) | (refine call_of (cF) ?_ ?_; (first | rfl | simp only [go_sem, reduceCtorEq, Nat.reduceEqDiff, Nat.reduceLT, Nat.reduceLeDiff, Nat.reduceAdd, Nat.reduceMul, Nat.reduceSub, Nat.reduceBEq, ↓reduceIte, ix, atC, lk, zaU, avU, shut_col]); simp only [go_sem, Nat.reduceLeDiff, Nat.reduceAdd, ↓reduceIte, atC]) | refine k_of (by assumption) ?_ | refine tr_block ?_ | (refine tr_skip ?_; try simp only [ex_seq]))
      refine tr_cond rfl (fun ht => ?_) (fun hf => ?_)
      · cases ht
      · repeat (first | (refine tr_region ?_; simp only [go_sem, Nat.reduceEqDiff, Nat.reduceLT, ↓reduceIte, ws]) | refine k_of (by assumption) ?_ | (refine tr_skip ?_; try simp only [ex_seq, ex_block]))
        exact hK (k + 1) _ _ hlt ⟨⟨by rw [hnx]; rfl, rfl, rfl, rfl, rfl, trivial⟩, by rw [hnx]; exact Keep.of (eh := [_, _, _]) (ew := []) rfl (List.append_nil _).symm, by simp only [lowF, low_col]; rfl, rfl, Nat.le_refl _, Nat.zero_le _⟩ (by omega)
    · have lk := at_none hm
      have pu := at_put hm
      rw [fmStep, if_neg hm] at hnx
      have ap := fun hp => appA hp (fdist (L.take k)) (formA x) (by omega)
      rw [← hnx] at ap pu
      have b1 := build1A (formA x)
      repeat (first | refine tr_seq_k fun _ _ => ?_ | (refine tr_region ?_; simp only [go_sem, Nat.reduceEqDiff, Nat.reduceLT, Nat.reduceLeDiff, Nat.reduceAdd, ↓reduceIte, ix, atC, lk, zaU]) | (refine call_of (cF) ?_ ?_; (first | rfl | simp only [go_sem, reduceCtorEq, Nat.reduceEqDiff, Nat.reduceLT, Nat.reduceLeDiff, Nat.reduceAdd, Nat.reduceMul, Nat.reduceSub, Nat.reduceBEq, ↓reduceIte, ix, atC, lk, zaU, avU, shut_col]); simp only [go_sem, Nat.reduceLeDiff, Nat.reduceAdd, ↓reduceIte, atC]) | refine k_of (by assumption) ?_ | refine tr_block ?_ | (refine tr_skip ?_; try simp only [ex_seq]))
      refine tr_cond rfl (fun ht => ?_) (fun hf => ?_)
      · repeat (first | refine tr_seq_k fun _ _ => ?_ | (refine tr_region ?_; simp only [go_sem, Nat.reduceEqDiff, Nat.reduceLT, Nat.reduceLeDiff, Nat.reduceAdd, ↓reduceIte, pu, b1, one_max, ap, ws]) | refine k_of (by assumption) ?_)
        exact hK (k + 1) _ _ hlt ⟨⟨rfl, rfl, rfl, rfl, rfl, trivial⟩, Keep.of (eh := [_, _, _]) (ew := []) rfl (List.append_nil _).symm, by simp only [lowF, low_col]; rfl, rfl, Nat.le_refl _, Nat.zero_le _⟩ (by omega)
      · cases hf
  · have hkl : k = L.length := by
      have := of_decide_eq_false hf
      omega
    subst hkl
    rw [List.take_length]
    by_cases h0 : fdist L = []
    · have hL : L = [] := by
        cases L with
        | nil => rfl
        | cons a l =>
          have : formA a ∈ fdist (a :: l) := mem_fdist.2 ⟨a, List.mem_cons_self, rfl⟩
          rw [h0] at this
          simp at this
      subst hL
      have cS := sorted_does [] true (by simp) (by simp)
      repeat (first | refine tr_seq_k fun _ _ => ?_ | (refine tr_region ?_; simp only [go_sem, Nat.reduceEqDiff, Nat.reduceLT, ↓reduceIte, h0]) | (refine call_of (cS) ?_ ?_; (first | rfl | simp only [go_sem, reduceCtorEq, Nat.reduceEqDiff, Nat.reduceLT, Nat.reduceLeDiff, Nat.reduceAdd, Nat.reduceMul, Nat.reduceSub, Nat.reduceBEq, ↓reduceIte, h0, shut_col]); simp only [go_sem]) | refine k_of (by assumption) ?_ | (refine tr_exit ?_; try simp only [ex_seq_exit, ex_block_exit, ex_seq, ↓reduceIte]) | (refine tr_ret ?_; try simp only [ex_seq_ret, ex_block_ret]))
      refine (hQ _ _ [.c (slC atC true (srtA []))] ?_ (fun m => rfl)).2 <;> simp only [go_sem, Nat.reduceEqDiff, ↓reduceIte, Tryz.f16]
    · have hlen := fdist_le L
      have cS := sorted_does (fdist L) false (by omega) (fun a ha => by
        obtain ⟨b, hb, rfl⟩ := mem_fdist.1 ha
        exact formA_sz (hsz b hb))
      have e1 : (fdist L).isEmpty = false := by
        rw [List.isEmpty_eq_false_iff]; exact h0
      have e2 : L.isEmpty = false := by
        rw [List.isEmpty_eq_false_iff]
        rintro rfl
        exact h0 rfl
      rw [e1] at cS
      rw [e2]
      rw [colA_ne atC 0 h0, colH_ne _ _ h0] at *
      repeat (first | refine tr_seq_k fun _ _ => ?_ | (refine tr_region ?_; simp only [go_sem, Nat.reduceEqDiff, Nat.reduceLT, ↓reduceIte]) | (refine call_of (cS) ?_ ?_; (first | rfl | simp only [go_sem, reduceCtorEq, Nat.reduceEqDiff, Nat.reduceLT, Nat.reduceLeDiff, Nat.reduceAdd, Nat.reduceMul, Nat.reduceSub, Nat.reduceBEq, ↓reduceIte, shut_col]); simp only [go_sem]) | refine k_of (by assumption) ?_ | (refine tr_exit ?_; try simp only [ex_seq_exit, ex_block_exit, ex_seq, ↓reduceIte]) | (refine tr_ret ?_; try simp only [ex_seq_ret, ex_block_ret]))
      refine (hQ _ _ [.c (slC atC false (srtA (fdist L)))] ?_ (fun m => ?_)).2 <;> simp only [go_sem, Nat.reduceEqDiff, ↓reduceIte, Tryz.f16,]
      rw [e2]
end Go.Proofs.YtinbfakpjnnagaaGreatDoor
namespace Go.Proofs.YtinbfakpjnnagaaGreatDoor
open Go.RowKit Go.Vs Go.Vs.Ab
set_option maxRecDepth 100000
set_option maxHeartbeats 4000000
theorem consts3_does (a : Atm) : Does Tryz.prog 39 [atA a] (fun m => (.c (slC stC (pnames a false).isEmpty (pnames a false)), m)) := by
  have c1 := (names13_does a).shut
  refine does_of' Tryz.func39 rfl (by kernel_rfl) rfl Tryz.ntmps39 rfl rfl fun Q hQ => ?_
  repeat (first | refine tr_seq_k fun _ _ => ?_ | (refine tr_region ?_; simp only [go_sem, reduceCtorEq, Nat.reduceEqDiff, Nat.reduceLT, Nat.reduceLeDiff, Nat.reduceAdd, ↓reduceIte]) | (refine call_of (c1) ?_ ?_; (first | rfl | simp only [go_sem, reduceCtorEq, Nat.reduceEqDiff, Nat.reduceLT, Nat.reduceLeDiff, Nat.reduceAdd, Nat.reduceMul, Nat.reduceSub, Nat.reduceBEq, ↓reduceIte, shut_col]); simp only [go_sem]) | refine k_of (by assumption) ?_ | (refine tr_ret ?_; try simp only [ex_seq_ret, ex_block_ret]))
  refine (hQ _ _ [.c (slC stC (pnames a false).isEmpty (pnames a false))] ?_ (fun m => rfl)).2 <;> simp only [go_sem, reduceCtorEq, Nat.reduceEqDiff, ↓reduceIte, Tryz.f39]
  rfl
/-! ### the constants met -/
def csK (V : List ByteArray) (acc : List ByteArray) (k : Nat) : List ByteArray := (V.take k).foldl addS acc
theorem csK_next {V : List ByteArray} {acc : List ByteArray} {k : Nat} (h : k < V.length) : csK V acc (k + 1) = addS (csK V acc k) V[k] := by
  unfold csK
  rw [List.take_succ_eq_append_getElem h, List.foldl_append]
  rfl
def csL (L : List Atm) (i : Nat) : List ByteArray := (L.take i).foldl (fun acc a => (pnames a false).foldl addS acc) []
theorem csL_next {L : List Atm} {i : Nat} (h : i < L.length) : csL L (i + 1) = csK (pnames L[i] false) (csL L i) (pnames L[i] false).length := by
  unfold csL csK
  rw [List.take_succ_eq_append_getElem h, List.foldl_append, List.take_length]
  rfl
theorem addS_len (l : List ByteArray) (s : ByteArray) : (addS l s).length ≤ l.length + 1 := by
  unfold addS
  split <;> simp
theorem addS_nodup {l : List ByteArray} {s : ByteArray} (h : l.Nodup) : (addS l s).Nodup := by
  unfold addS
  split
  · exact h
  · rename_i hs
    rw [List.nodup_append]
    refine ⟨h, by simp, fun a ha b hb => ?_⟩
    rw [List.mem_singleton] at hb
    subst hb
    rintro rfl
    exact hs (hasB_iff.2 ha)
theorem addsF_mem : ∀ (V : List ByteArray) {acc : List ByteArray} {x : ByteArray}, x ∈ V.foldl addS acc ↔ x ∈ acc ∨ x ∈ V
  | [], acc, x => by simp
  | v :: V, acc, x => by
    rw [List.foldl_cons, addsF_mem V, addS_mem, List.mem_cons, or_assoc]
theorem addsF_nodup : ∀ (V : List ByteArray) {acc : List ByteArray}, acc.Nodup → (V.foldl addS acc).Nodup
  | [], acc, h => h
  | v :: V, acc, h => by rw [List.foldl_cons]; exact addsF_nodup V (addS_nodup h)
theorem addsF_len : ∀ (V : List ByteArray) {acc : List ByteArray}, (V.foldl addS acc).length ≤ acc.length + V.length
  | [], acc => by simp
  | v :: V, acc => by
    have h1 := addsF_len V (acc := addS acc v)
    have h2 := addS_len acc v
    rw [List.foldl_cons, List.length_cons]
    omega
theorem csF_mem : ∀ (L : List Atm) {acc : List ByteArray} {x : ByteArray}, x ∈ L.foldl (fun acc a => (pnames a false).foldl addS acc) acc ↔ x ∈ acc ∨ ∃ a ∈ L, x ∈ pnames a false
  | [], acc, x => by simp
  | a :: L, acc, x => by
    rw [List.foldl_cons, csF_mem L, addsF_mem, or_assoc]
    simp
theorem csF_nodup : ∀ (L : List Atm) {acc : List ByteArray}, acc.Nodup → (L.foldl (fun acc a => (pnames a false).foldl addS acc) acc).Nodup
  | [], acc, h => h
  | a :: L, acc, h => by rw [List.foldl_cons]; exact csF_nodup L (addsF_nodup _ h)
theorem csF_len : ∀ (L : List Atm) {acc : List ByteArray}, (L.foldl (fun acc a => (pnames a false).foldl addS acc) acc).length ≤ acc.length + 4 * L.length
  | [], acc => by simp
  | a :: L, acc => by
    have h1 := csF_len L (acc := (pnames a false).foldl addS acc)
    have h2 := addsF_len (pnames a false) (acc := acc)
    have h3 : (pnames a false).length ≤ 4 := Nat.le_trans (pnamesC_len a a.count) a.count_le
    rw [List.foldl_cons, List.length_cons]
    omega
def csAll (L : List Atm) : List ByteArray := L.foldl (fun acc a => (pnames a false).foldl addS acc) []
theorem csL_all (L : List Atm) : csL L L.length = csAll L := by unfold csL csAll; rw [List.take_length]
theorem mem_csAll {L : List Atm} {x : ByteArray} : x ∈ csAll L ↔ ∃ a ∈ L, x ∈ pnames a false := by
  unfold csAll
  rw [csF_mem]
  simp
theorem csAll_sz {L : List Atm} (h : ∀ a ∈ L, AtSz a) : ∀ s ∈ csAll L, s.size ≤ 1000000 := fun s hs => by
  obtain ⟨a, ha, hx⟩ := mem_csAll.1 hs
  obtain ⟨i, _, _, rfl⟩ := (mem_pnamesC a.count_le).1 hx
  exact Nat.le_trans ((h a ha).2.2 i) (by decide)
def constsF (p : Pol) : List ByteArray := sortB (csAll (atomsF p))
theorem consts13_does {p : Pol} (h : Lt13 p) : Does Tryz.prog 19 [poA p] (fun m => (.c (slC stC (csAll (atomsF p)).isEmpty (constsF p)), m)) := by
  have cC := (atoms_does h).shut
  have hsz := csAll_sz (atomsF_sz h)
  have hll := atomsF_len h
  unfold constsF
  have hnd : (csAll (atomsF p)).Nodup := csF_nodup _ List.nodup_nil
  have hln : (csAll (atomsF p)).length ≤ 1000000 := by
    have := csF_len (atomsF p) (acc := [])
    rw [List.length_nil] at this
    unfold csAll
    omega
  generalize atomsF p = L at *
  refine does_of' Tryz.func19 rfl (by kernel_rfl) rfl Tryz.ntmps19 rfl rfl fun Q hQ => ?_
  repeat (first | refine tr_seq_k fun _ _ => ?_ | (refine tr_region ?_; simp only [go_sem, List.getElem?_toArray, reduceCtorEq, Nat.reduceEqDiff, Nat.reduceLT, Nat.reduceLeDiff, Nat.reduceAdd, ↓reduceIte]) | (refine call_of (cC) ?_ ?_; (first | rfl | simp only [go_sem, reduceCtorEq, Nat.reduceEqDiff, Nat.reduceLT, Nat.reduceLeDiff, Nat.reduceAdd, Nat.reduceMul, Nat.reduceSub, Nat.reduceBEq, ↓reduceIte, shut_col]); simp only [go_sem, reduceCtorEq, Nat.reduceEqDiff, Nat.reduceLT, ↓reduceIte]) | refine k_of (by assumption) ?_ | refine tr_block ?_)
  refine tr_loop_k (σ := Nat) (fun i => [(3, .mapp 1), (10, .c (slC atC L.isEmpty L)), (11, iA L.length), (12, iA i)]) (fun i => ⟨[⟨false, [.c (slC stC p.e1 p.prin), .c (slC prC p.e2 p.preds), .c (slC clC p.e3 p.clears), iA p.quota, iA p.budget, .c (slC ruC p.e4 p.rules), .c (slC grC p.e5 p.grants)]⟩, ⟨false, [.ent (setEs .string u0 (csL L i))]⟩], []⟩)
    (fun i => i ≤ L.length) (fun i => L.length - i) 0 (Nat.zero_le _) ⟨rfl, rfl, rfl, rfl, trivial⟩ rfl ?_
  rintro i hi K hK
  repeat (first | refine tr_seq_k fun _ _ => ?_ | (refine tr_region ?_; simp only [go_sem, Nat.reduceEqDiff, Nat.reduceLT, ↓reduceIte]) | refine k_of (by assumption) ?_)
  refine tr_cond rfl (fun ht => ?_) (fun hf => ?_)
  · have hlt : i < L.length := by
      have := of_decide_eq_true ht
      omega
    have ws := wrap_succ (show i ≤ 1000000000 by omega)
    have ix := idxA12 (ex := L.isEmpty) hlt
    have on := csL_next hlt
    generalize L[i] = a at *
    have cV := consts3_does a
    have hV : (pnames a false).length ≤ 4 := Nat.le_trans (pnamesC_len a a.count) a.count_le
    generalize pnames a false = V at *
    repeat (first | refine tr_seq_k fun _ _ => ?_ | (refine tr_region ?_; simp only [go_sem, List.getElem?_toArray, Nat.reduceEqDiff, Nat.reduceLT, Nat.reduceLeDiff, Nat.reduceAdd, ↓reduceIte, ix, atC]) | (refine call_of (cV) ?_ ?_; (first | rfl | simp only [go_sem, reduceCtorEq, Nat.reduceEqDiff, Nat.reduceLT, Nat.reduceLeDiff, Nat.reduceAdd, Nat.reduceMul, Nat.reduceSub, Nat.reduceBEq, ↓reduceIte, ix, atC, shut_col]); simp only [go_sem, Nat.reduceEqDiff, Nat.reduceLT, ↓reduceIte]) | refine k_of (by assumption) ?_ | refine tr_block ?_ | (refine tr_skip ?_; try simp only [ex_seq]))
    refine tr_loop_k (σ := Nat) (fun k => [(3, .mapp 1), (10, .c (slC atC L.isEmpty L)), (11, iA L.length), (12, iA i), (17, .c (slC stC V.isEmpty V)), (18, iA V.length), (19, iA k)]) (fun k => ⟨[⟨false, [.c (slC stC p.e1 p.prin), .c (slC prC p.e2 p.preds), .c (slC clC p.e3 p.clears), iA p.quota, iA p.budget, .c (slC ruC p.e4 p.rules), .c (slC grC p.e5 p.grants)]⟩, ⟨false, [.ent (setEs .string u0 (csK V (csL L i) k))]⟩, ⟨false, ([.c (.v (.string a.says)), .c (.v (.string a.pred)), .c (.v (.int .i64 a.n)), .c (.v (.bool a.a0.v)), .c (.v (.string a.a0.name)), .c (.v (.bool a.a1.v)), .c (.v (.string a.a1.name)), .c (.v (.bool a.a2.v)), .c (.v (.string a.a2.name)), .c (.v (.bool a.a3.v)), .c (.v (.string a.a3.name))] : List AV)⟩], []⟩)
      (fun k => k ≤ V.length) (fun k => V.length - k) 0 (Nat.zero_le _) ⟨rfl, rfl, rfl, rfl, rfl, rfl, rfl, trivial⟩ rfl ?_
    rintro k hk K2 hK2
    repeat (first | refine tr_seq_k fun _ _ => ?_ | (refine tr_region ?_; simp only [go_sem, Nat.reduceEqDiff, Nat.reduceLT, ↓reduceIte]) | refine k_of (by assumption) ?_)
    refine tr_cond rfl (fun ht => ?_) (fun hf => ?_)
    · have hkl : k < V.length := by
        have := of_decide_eq_true ht
        omega
      have ws2 := wrap_succ (show k ≤ 1000000000 by omega)
      have ixs := idxS12 (ex := V.isEmpty) hkl
      have pu := on_put (P := Tryz.prog) Tryz.underlying9 (u := u0) (csK V (csL L i) k) V[k]
      rw [← csK_next hkl] at pu
      repeat (first | refine tr_seq_k fun _ _ => ?_ | (refine tr_region ?_; simp only [go_sem, Nat.reduceEqDiff, Nat.reduceLT, ↓reduceIte, ixs, stC, pu, ws2]) | refine k_of (by assumption) ?_ | refine tr_block ?_ | (refine tr_skip ?_; try simp only [ex_seq]))
      exact hK2 (k + 1) _ _ hkl ⟨⟨rfl, rfl, rfl, rfl, rfl, rfl, rfl, trivial⟩, Keep.refl _, rfl, rfl, Nat.le_refl _, Nat.le_refl _⟩ (by omega)
    · have hkl : k = V.length := by
        have := of_decide_eq_false hf
        omega
      subst hkl
      repeat (first | (refine tr_region ?_; simp only [go_sem, Nat.reduceEqDiff, Nat.reduceLT, ↓reduceIte, ws]) | refine k_of (by assumption) ?_ | (refine tr_exit ?_; try simp only [ex_seq_exit, ex_block_exit, ex_seq, ex_block, ↓reduceIte]))
      exact hK (i + 1) _ _ hlt ⟨⟨rfl, rfl, rfl, rfl, trivial⟩, by rw [on]; exact Keep.of (eh := [_]) (ew := []) rfl (List.append_nil _).symm, rfl, rfl, Nat.le_refl _, Nat.zero_le _⟩ (by omega)
  · have hil : i = L.length := by
      have := of_decide_eq_false hf
      omega
    subst hil
    rw [csL_all]
    repeat (first | refine tr_seq_k fun _ _ => ?_ | (refine tr_region ?_; simp only [go_sem, Nat.reduceEqDiff, Nat.reduceLT, ↓reduceIte]) | refine k_of (by assumption) ?_ | (refine tr_exit ?_; try simp only [ex_seq_exit, ex_block_exit, ex_seq, ↓reduceIte]))
    refine ⟨_, _, Or.inr ⟨keys13_gives _ _ 1, ?_⟩⟩
    refine ⟨_, _, Or.inr ⟨sorted13_gives (b := 2) (bm := 1) (l := csAll L) rfl rfl hnd hsz hln, ?_⟩⟩
    repeat (first | refine k_of (by assumption) ?_ | (refine tr_ret ?_; try simp only [ex_seq_ret, ex_block_ret]))
    refine (hQ _ _ [.c (slC stC (csAll L).isEmpty (sortB (csAll L)))] ?_ (fun m => rfl)).2 <;> simp only [go_sem, Nat.reduceEqDiff, Nat.reduceAdd, ↓reduceIte, Tryz.f19]
end Go.Proofs.YtinbfakpjnnagaaGreatDoor
namespace Go.Proofs.YtinbfakpjnnagaaGreatDoor
open Go.Vs Go.Vs.Ab
set_option maxRecDepth 100000
set_option maxHeartbeats 4000000
theorem said_does (a : Atm) (hS : AtSz a) : Does Tryz.prog 70 [atA a] (fun m => (sA (psaid a), m)) := by
  have h4 := a.count_le
  have cc := count_does a
  refine does_of' Tryz.func70 rfl (by kernel_rfl) rfl Tryz.ntmps70 rfl rfl fun Q hQ => ?_
  repeat (first | refine tr_seq_k fun _ _ => ?_ | (refine tr_region ?_; simp only [go_sem, List.getElem?_toArray, reduceCtorEq, Nat.reduceEqDiff, Nat.reduceLT, ↓reduceIte]) | refine k_of (by assumption) ?_ | refine tr_block ?_)
  refine tr_loop_k (σ := Nat) (fun k => [(1, .ptr 0 0), (3, sA (psaidK a k)), (4, iA k)]) (fun k => ⟨[⟨false, ([.c (.v (.string a.says)), .c (.v (.string a.pred)), .c (.v (.int .i64 a.n)), .c (.v (.bool a.a0.v)), .c (.v (.string a.a0.name)), .c (.v (.bool a.a1.v)), .c (.v (.string a.a1.name)), .c (.v (.bool a.a2.v)), .c (.v (.string a.a2.name)), .c (.v (.bool a.a3.v)), .c (.v (.string a.a3.name))] : List AV)⟩], []⟩)
    (fun k => k ≤ a.count) (fun k => a.count - k) 0 (Nat.zero_le _) ⟨rfl, rfl, rfl, trivial⟩ rfl ?_
  rintro k hk K hK
  have hsz := psaidK_size hS k
  have hk2 : k * 1000002 ≤ 4 * 1000002 := Nat.mul_le_mul_right _ (by omega)
  have hsz : (psaidK a k).size ≤ 7000000 := by omega
  clear hk2
  repeat (first | refine tr_seq_k fun _ _ => ?_ | (refine tr_region ?_; simp only [go_sem, Nat.reduceEqDiff, Nat.reduceLT, Nat.reduceLeDiff, Nat.reduceAdd, ↓reduceIte]) | (refine call_of (cc) ?_ ?_; (first | rfl | simp only [go_sem, reduceCtorEq, Nat.reduceEqDiff, Nat.reduceLT, Nat.reduceLeDiff, Nat.reduceAdd, Nat.reduceMul, Nat.reduceSub, Nat.reduceBEq, ↓reduceIte, shut_col]); simp only [go_sem, Nat.reduceEqDiff, Nat.reduceLT, ↓reduceIte]) | refine k_of (by assumption) ?_)
  refine tr_cond rfl (fun ht => ?_) (fun hf => ?_)
  · have hlt : k < a.count := by simpa using ht
    have hk4 : k < 4 := by omega
    have ws := wrap_succ (show k ≤ 1000000000 by omega)
    have hs := atS a hk4
    have hn := hS.2.2 k
    cases k with
    | zero =>
      have e1 := sadd (a := psaidK a 0) (b := tOpen) (n := 8000000) (by have : tOpen.size = 1 := rfl; omega) (by decide)
      have e2 := sadd (a := psaidK a 0 ++ tOpen) (b := (a.arg 0).name) (n := 9000000) (by have : tOpen.size = 1 := rfl; simp only [ByteArray.size_append]; omega) (by decide)
      repeat (first | refine tr_seq_k fun _ _ => ?_ | (refine tr_region ?_; simp only [go_sem, Nat.reduceEqDiff, Nat.reduceLT, ↓reduceIte, show decide (((0 : Nat) : Int) = 0) = true from rfl]) | refine k_of (by assumption) ?_ | refine tr_block ?_ | (refine tr_skip ?_; try simp only [ex_seq]))
      refine tr_cond rfl (fun ht => ?_) (fun hf => ?_)
      · repeat (first | (refine tr_region ?_; simp only [go_sem, List.getElem?_toArray, reduceCtorEq, Nat.reduceEqDiff, Nat.reduceLT, Nat.reduceAdd, ↓reduceIte, e1, e2, arrT hk4, hs, ws]) | refine k_of (by assumption) ?_)
        exact hK (0 + 1) _ _ hlt ⟨⟨rfl, rfl, rfl, trivial⟩, Keep.refl _, rfl, rfl, Nat.le_refl _, Nat.le_refl _⟩ (by omega)
      · cases hf
    | succ k =>
      have e1 := sadd (a := psaidK a (k + 1)) (b := tComma) (n := 8000000) (by have : tComma.size = 2 := rfl; omega) (by decide)
      have e2 := sadd (a := psaidK a (k + 1) ++ tComma) (b := (a.arg (k + 1)).name) (n := 9000000) (by have : tComma.size = 2 := rfl; simp only [ByteArray.size_append]; omega) (by decide)
      have h0 : decide (((k + 1 : Nat) : Int) = 0) = false := decide_eq_false (by omega)
      repeat (first | refine tr_seq_k fun _ _ => ?_ | (refine tr_region ?_; simp only [go_sem, Nat.reduceEqDiff, Nat.reduceLT, ↓reduceIte, h0]) | refine k_of (by assumption) ?_ | refine tr_block ?_ | (refine tr_skip ?_; try simp only [ex_seq]))
      refine tr_cond rfl (fun ht => ?_) (fun hf => ?_)
      · cases ht
      · repeat (first | (refine tr_region ?_; simp only [go_sem, List.getElem?_toArray, reduceCtorEq, Nat.reduceEqDiff, Nat.reduceLT, ↓reduceIte, e1, e2, arrT hk4, hs, ws]) | refine k_of (by assumption) ?_)
        exact hK (k + 1 + 1) _ _ hlt ⟨⟨rfl, rfl, rfl, trivial⟩, Keep.refl _, rfl, rfl, Nat.le_refl _, Nat.le_refl _⟩ (by omega)
  · have hkl : k = a.count := by
      have := of_decide_eq_false hf
      omega
    subst hkl
    by_cases h0 : 0 < a.count
    · have hd : decide ((a.count : Int) > 0) = true := decide_eq_true (by omega)
      have hd' : decide ((0 : Int) < a.count) = true := decide_eq_true (by omega)
      have e1 := sadd (a := psaidK a a.count) (b := tShut) (n := 8000000) (by have : tShut.size = 1 := rfl; omega) (by decide)
      repeat (first | refine tr_seq_k fun _ _ => ?_ | (refine tr_region ?_; simp only [go_sem, Nat.reduceEqDiff, Nat.reduceLT, Nat.reduceLeDiff, Nat.reduceAdd, ↓reduceIte]) | (refine call_of (cc) ?_ ?_; (first | rfl | simp only [go_sem, reduceCtorEq, Nat.reduceEqDiff, Nat.reduceLT, Nat.reduceLeDiff, Nat.reduceAdd, Nat.reduceMul, Nat.reduceSub, Nat.reduceBEq, ↓reduceIte, hd, hd', shut_col]); simp only [go_sem, Nat.reduceEqDiff, Nat.reduceLT, ↓reduceIte, hd]) | refine k_of (by assumption) ?_ | (refine tr_exit ?_; try simp only [ex_seq_exit, ex_block_exit, ex_seq, ↓reduceIte]))
      refine tr_cond rfl (fun ht => ?_) (fun hf => ?_)
      · repeat (first | refine tr_seq_k fun _ _ => ?_ | (refine tr_region ?_; simp only [go_sem, Nat.reduceEqDiff, Nat.reduceLT, ↓reduceIte, e1]) | refine k_of (by assumption) ?_ | (refine tr_ret ?_; try simp only [ex_seq_ret, ex_block_ret]))
        refine (hQ _ _ [sA (psaidK a a.count ++ tShut)] ?_ (fun m => by unfold psaid; rw [if_pos h0]; rfl)).2 <;> simp only [go_sem, Nat.reduceEqDiff, ↓reduceIte, Tryz.f70]
      · cases hf
    · have hd : decide ((a.count : Int) > 0) = false := decide_eq_false (by omega)
      have hd' : decide ((0 : Int) < a.count) = false := decide_eq_false (by omega)
      have hz : a.count = 0 := by omega
      repeat (first | refine tr_seq_k fun _ _ => ?_ | (refine tr_region ?_; simp only [go_sem, Nat.reduceEqDiff, Nat.reduceLT, Nat.reduceLeDiff, Nat.reduceAdd, ↓reduceIte]) | (refine call_of (cc) ?_ ?_; (first | rfl | simp only [go_sem, reduceCtorEq, Nat.reduceEqDiff, Nat.reduceLT, Nat.reduceLeDiff, Nat.reduceAdd, Nat.reduceMul, Nat.reduceSub, Nat.reduceBEq, ↓reduceIte, hd, hd', shut_col]); simp only [go_sem, Nat.reduceEqDiff, Nat.reduceLT, ↓reduceIte, hd]) | refine k_of (by assumption) ?_ | (refine tr_exit ?_; try simp only [ex_seq_exit, ex_block_exit, ex_seq, ↓reduceIte]))
      refine tr_cond rfl (fun ht => ?_) (fun hf => ?_)
      · cases ht
      · repeat (first | refine tr_seq_k fun _ _ => ?_ | (refine tr_region ?_; simp only [go_sem, Nat.reduceEqDiff, Nat.reduceLT, ↓reduceIte]) | refine k_of (by assumption) ?_ | (refine tr_skip ?_; try simp only [ex_seq]) | (refine tr_ret ?_; try simp only [ex_seq_ret, ex_block_ret]))
        refine (hQ _ _ [sA (psaidK a a.count)] ?_ (fun m => by unfold psaid; rw [if_neg h0, hz]; rfl)).2 <;> simp only [go_sem, Nat.reduceEqDiff, ↓reduceIte, Tryz.f70]
theorem r3text_does (a : Atm) (hS : AtSz a) : Does Tryz.prog 45 [atA a] (fun m => (sA (ptext a), m)) := by
  have h4 := a.count_le
  have cs := said_does a hS
  have h1 := psaidK_size hS a.count
  have h2 : a.count * 1000002 ≤ 4 * 1000002 := Nat.mul_le_mul_right _ h4
  have h3 : (psaid a).size ≤ 8000000 := by
    unfold psaid
    split
    · have : tShut.size = 1 := rfl
      simp only [ByteArray.size_append]; omega
    · have := hS.2.1; omega
  have e1 := sadd (a := a.says) (b := tSays) (n := 2000000) (by have := hS.1; have : tSays.size = 6 := rfl; omega) (by decide)
  have e2 := sadd (a := a.says ++ tSays) (b := psaid a) (n := 20000000) (by have := hS.1; have : tSays.size = 6 := rfl; rw [ByteArray.size_append]; omega) (by decide)
  refine does_of' Tryz.func45 rfl (by kernel_rfl) rfl Tryz.ntmps45 rfl rfl fun Q hQ => ?_
  repeat (first | refine tr_seq_k fun _ _ => ?_ | (refine tr_region ?_; simp only [go_sem, reduceCtorEq, Nat.reduceEqDiff, Nat.reduceLT, ↓reduceIte]) | (refine tr_draw (id := 1) follows 10000 [4] [0, 1, 2, 3, 4, 5, 6] (by kernel_rfl) ?_; simp only [go_sem, List.getElem?_toArray, reduceCtorEq, Nat.reduceEqDiff, Nat.reduceLT, Nat.reduceLeDiff, Nat.reduceAdd, ↓reduceIte, e1]) | (refine call_of (cs) ?_ ?_; (first | rfl | simp only [go_sem, reduceCtorEq, Nat.reduceEqDiff, Nat.reduceLT, Nat.reduceLeDiff, Nat.reduceAdd, Nat.reduceMul, Nat.reduceSub, Nat.reduceBEq, ↓reduceIte, e1, e2, shut_col]); simp only [go_sem, reduceCtorEq, Nat.reduceEqDiff, Nat.reduceLT, ↓reduceIte, Bool.true_or, e2]) | refine k_of (by assumption) ?_ | (refine tr_ret ?_; try simp only [ex_seq_ret, ex_block_ret]))
  refine (hQ _ _ [sA ((a.says ++ tSays) ++ psaid a)] ?_ (fun m => rfl)).2 <;> simp only [go_sem, reduceCtorEq, Nat.reduceEqDiff, ↓reduceIte, Tryz.f45]
end Go.Proofs.YtinbfakpjnnagaaGreatDoor
namespace Go.Proofs.YtinbfakpjnnagaaGreatDoor
open Go.RowKit Go.Vs Go.Vs.Ab Go.Vs.Sm
set_option maxRecDepth 100000
set_option maxHeartbeats 4000000
theorem blt_A (a b : Atm) : blt (ptext a) (ptext b) = ltA a b := by
  show Op.bytesLess (ptext a).toList (ptext b).toList = Op.bytesLess (ptext a).data.toList (ptext b).data.toList
  rw [ByteArray.toList_eq, ByteArray.toList_eq]
def cmp8 (a b : Atm) : Int := if ltA a b = true then -1 else if ltA b a = true then 1 else 0
theorem cmp8_does (a b : Atm) (ha : AtSz a) (hb : AtSz b) : Does Tryz.prog 52 [atA a, atA b] (fun m => (iA (cmp8 a b), m)) := by
  have c1 := r3text_does a ha
  have c2 := r3text_does b hb
  have e1 := blt_A a b
  have e2 := blt_A b a
  cases h1 : ltA a b with
  | true =>
    rw [h1] at e1
    have e : cmp8 a b = -1 := by unfold cmp8; rw [if_pos h1]
    refine does_of' Tryz.func52 rfl (by kernel_rfl) rfl Tryz.ntmps52 rfl rfl fun Q hQ => ?_
    repeat (first | refine tr_seq_k fun _ _ => ?_ | (refine tr_region ?_; simp only [go_sem, reduceCtorEq, Nat.reduceEqDiff, Nat.reduceLT, ↓reduceIte, bl_blt, e1]) | (refine tr_draw (id := 1) follows 10000 [1, 3] [0, 2, 1, 3, 4, 5] (by kernel_rfl) ?_; simp only [go_sem, List.getElem?_toArray, reduceCtorEq, Nat.reduceEqDiff, Nat.reduceLT, Nat.reduceLeDiff, Nat.reduceAdd, ↓reduceIte]) | (refine call_of (c1) ?_ ?_; (first | rfl | simp only [go_sem]); simp only [go_sem, Nat.reduceBEq, Bool.true_or, Bool.false_or]) | (refine call_of (c2) ?_ ?_; (first | rfl | simp only [go_sem, reduceCtorEq, Nat.reduceEqDiff, Nat.reduceLT, Nat.reduceLeDiff, Nat.reduceAdd, Nat.reduceMul, Nat.reduceSub, Nat.reduceBEq, ↓reduceIte, bl_blt, e1, shut_col]); simp only [go_sem, Nat.reduceBEq, Bool.true_or, Bool.false_or]) | refine k_of (by assumption) ?_ | refine tr_block ?_)
    refine tr_cond rfl (fun ht => ?_) (fun hf => ?_)
    · repeat (first | refine tr_seq_k fun _ _ => ?_ | (refine tr_region ?_; simp only [go_sem, reduceCtorEq, Nat.reduceEqDiff, Nat.reduceLT, ↓reduceIte]) | refine k_of (by assumption) ?_ | (refine tr_ret ?_; try simp only [ex_seq_ret, ex_block_ret]))
      rw [e] at hQ
      refine (hQ _ _ [iA (-1)] ?_ (fun m => rfl)).2 <;> simp only [go_sem, reduceCtorEq, Nat.reduceEqDiff, ↓reduceIte, Tryz.f52]
    · cases hf
  | false =>
    rw [h1] at e1
    cases h2 : ltA b a with
    | true =>
      rw [h2] at e2
      have e : cmp8 a b = 1 := by unfold cmp8; rw [h1, if_neg (by decide), if_pos h2]
      refine does_of' Tryz.func52 rfl (by kernel_rfl) rfl Tryz.ntmps52 rfl rfl fun Q hQ => ?_
      repeat (first | refine tr_seq_k fun _ _ => ?_ | (refine tr_region ?_; simp only [go_sem, reduceCtorEq, Nat.reduceEqDiff, Nat.reduceLT, ↓reduceIte, bl_blt, e1]) | (refine tr_draw (id := 1) follows 10000 [1, 3] [0, 2, 1, 3, 4, 5] (by kernel_rfl) ?_; simp only [go_sem, List.getElem?_toArray, reduceCtorEq, Nat.reduceEqDiff, Nat.reduceLT, Nat.reduceLeDiff, Nat.reduceAdd, ↓reduceIte]) | (refine call_of (c1) ?_ ?_; (first | rfl | simp only [go_sem]); simp only [go_sem, Nat.reduceBEq, Bool.true_or, Bool.false_or]) | (refine call_of (c2) ?_ ?_; (first | rfl | simp only [go_sem, reduceCtorEq, Nat.reduceEqDiff, Nat.reduceLT, Nat.reduceLeDiff, Nat.reduceAdd, Nat.reduceMul, Nat.reduceSub, Nat.reduceBEq, ↓reduceIte, bl_blt, e1, shut_col]); simp only [go_sem, Nat.reduceBEq, Bool.true_or, Bool.false_or]) | refine k_of (by assumption) ?_ | refine tr_block ?_)
      refine tr_cond rfl (fun ht => ?_) (fun hf => ?_)
      · cases ht
      · repeat (first | refine tr_seq_k fun _ _ => ?_ | (refine tr_region ?_; simp only [go_sem, str_beq, reduceCtorEq, Nat.reduceEqDiff, Nat.reduceLT, ↓reduceIte, gt_blt, e2]) | refine k_of (by assumption) ?_)
        refine tr_cond rfl (fun ht => ?_) (fun hf => ?_)
        · repeat (first | refine tr_seq_k fun _ _ => ?_ | (refine tr_region ?_; simp only [go_sem, reduceCtorEq, Nat.reduceEqDiff, Nat.reduceLT, ↓reduceIte]) | refine k_of (by assumption) ?_ | (refine tr_ret ?_; try simp only [ex_seq_ret, ex_block_ret]))
          rw [e] at hQ
          refine (hQ _ _ [iA 1] ?_ (fun m => rfl)).2 <;> simp only [go_sem, reduceCtorEq, Nat.reduceEqDiff, ↓reduceIte, Tryz.f52]
        · cases hf
    | false =>
      rw [h2] at e2
      have e : cmp8 a b = 0 := by unfold cmp8; rw [h1, if_neg (by decide), h2, if_neg (by decide)]
      refine does_of' Tryz.func52 rfl (by kernel_rfl) rfl Tryz.ntmps52 rfl rfl fun Q hQ => ?_
      repeat (first | refine tr_seq_k fun _ _ => ?_ | (refine tr_region ?_; simp only [go_sem, reduceCtorEq, Nat.reduceEqDiff, Nat.reduceLT, ↓reduceIte, bl_blt, e1]) | (refine tr_draw (id := 1) follows 10000 [1, 3] [0, 2, 1, 3, 4, 5] (by kernel_rfl) ?_; simp only [go_sem, List.getElem?_toArray, reduceCtorEq, Nat.reduceEqDiff, Nat.reduceLT, Nat.reduceLeDiff, Nat.reduceAdd, ↓reduceIte]) | (refine call_of (c1) ?_ ?_; (first | rfl | simp only [go_sem]); simp only [go_sem, Nat.reduceBEq, Bool.true_or, Bool.false_or]) | (refine call_of (c2) ?_ ?_; (first | rfl | simp only [go_sem, reduceCtorEq, Nat.reduceEqDiff, Nat.reduceLT, Nat.reduceLeDiff, Nat.reduceAdd, Nat.reduceMul, Nat.reduceSub, Nat.reduceBEq, ↓reduceIte, bl_blt, e1, shut_col]); simp only [go_sem, Nat.reduceBEq, Bool.true_or, Bool.false_or]) | refine k_of (by assumption) ?_ | refine tr_block ?_)
      refine tr_cond rfl (fun ht => ?_) (fun hf => ?_)
      · cases ht
      · repeat (first | refine tr_seq_k fun _ _ => ?_ | (refine tr_region ?_; simp only [go_sem, str_beq, reduceCtorEq, Nat.reduceEqDiff, Nat.reduceLT, ↓reduceIte, gt_blt, e2]) | refine k_of (by assumption) ?_)
        refine tr_cond rfl (fun ht => ?_) (fun hf => ?_)
        · cases ht
        · repeat (first | refine tr_seq_k fun _ _ => ?_ | (refine tr_region ?_; simp only [go_sem, reduceCtorEq, Nat.reduceEqDiff, Nat.reduceLT, ↓reduceIte]) | refine k_of (by assumption) ?_ | (refine tr_skip ?_; try simp only [ex_seq, ex_block]) | (refine tr_ret ?_; try simp only [ex_seq_ret, ex_block_ret]))
          rw [e] at hQ
          refine (hQ _ _ [iA 0] ?_ (fun m => rfl)).2 <;> simp only [go_sem, reduceCtorEq, Nat.reduceEqDiff, ↓reduceIte, Tryz.f52]
theorem cmp8_neg (a b : Atm) : decide (cmp8 a b ≥ 0) = !ltA a b := by
  unfold cmp8
  cases ltA a b with
  | true => rfl
  | false =>
    rw [if_neg (by decide)]
    cases ltA b a <;> rfl
theorem is8_does (l : List Atm) (ex : Bool) (hl : l.length ≤ 1000000) (hsz : ∀ x ∈ l, AtSz x) (hs : l.Pairwise fun a b => ltA a b = true) : Does Tryz.prog 24 [.c (slC atC ex l)] (fun m => (bA true, m)) := by
  refine does_of' Tryz.func24 rfl (by kernel_rfl) rfl Tryz.ntmps24 rfl rfl fun Q hQ => ?_
  repeat (first | refine tr_seq_k fun _ _ => ?_ | (refine tr_region ?_; simp only [go_sem, reduceCtorEq, Nat.reduceEqDiff, Nat.reduceLT, ↓reduceIte]) | refine k_of (by assumption) ?_ | refine tr_block ?_)
  refine tr_loop_k (σ := Nat) (fun n => [(0, .c (slC atC ex l)), (3, iA n)]) (fun _ => ⟨[], []⟩)
    (fun n => 1 ≤ n ∧ n ≤ l.length + 1) (fun n => l.length + 1 - n) 1 ⟨Nat.le_refl _, by omega⟩ ⟨rfl, rfl, trivial⟩ rfl ?_
  rintro n ⟨h1, hk⟩ K hK
  repeat (first | refine tr_seq_k fun _ _ => ?_ | (refine tr_region ?_; simp only [go_sem, List.getElem?_toArray, reduceCtorEq, Nat.reduceEqDiff, Nat.reduceLT, ↓reduceIte]) | refine k_of (by assumption) ?_)
  refine tr_cond rfl (fun ht => ?_) (fun hf => ?_)
  · have hlt : n < l.length := by
      have := of_decide_eq_true ht
      omega
    have ws := wrap_succ (show n ≤ 1000000000 by omega)
    have wp : IntKind.i64.wrap ((n : Int) - 1) = ((n - 1 : Nat) : Int) := by rw [wrap_in (by omega)]; omega
    have ix1 := idxA12 (ex := ex) (show n - 1 < l.length by omega)
    have ix2 := idxA12 (ex := ex) hlt
    have hc := List.pairwise_iff_getElem.1 hs (n - 1) n (by omega) hlt (by omega)
    have cC := cmp8_does l[n - 1] l[n] (hsz _ (List.getElem_mem _)) (hsz _ (List.getElem_mem _))
    have q2 := cmp8_neg l[n - 1] l[n]
    rw [hc, Bool.not_true] at q2
    repeat (first | refine tr_seq_k fun _ _ => ?_ | (refine tr_draw (id := 4) follows 10000 [9] [0, 1, 2, 3, 4, 5, 6, 7, 8, 9, 10] (by kernel_rfl) ?_; simp only [go_sem, List.getElem?_toArray, reduceCtorEq, Nat.reduceEqDiff, Nat.reduceLT, Nat.reduceLeDiff, ↓reduceIte, wp, ix1, ix2, atC]) | (refine call_of (cC) ?_ ?_; (first | rfl | simp only [go_sem, reduceCtorEq, Nat.reduceEqDiff, Nat.reduceLT, Nat.reduceLeDiff, Nat.reduceAdd, Nat.reduceMul, Nat.reduceSub, Nat.reduceBEq, ↓reduceIte, wp, ix1, ix2, atC, q2, shut_col]); simp only [go_sem, reduceCtorEq, Nat.reduceEqDiff, Nat.reduceLT, ↓reduceIte, Bool.true_or, q2]) | refine k_of (by assumption) ?_ | refine tr_block ?_ | (refine tr_skip ?_; try simp only [ex_seq]))
    refine tr_cond rfl (fun ht => ?_) (fun hf => ?_)
    · cases ht
    · repeat (first | (refine tr_region ?_; simp only [go_sem, reduceCtorEq, Nat.reduceEqDiff, Nat.reduceLT, ↓reduceIte, ws]) | refine k_of (by assumption) ?_ | (refine tr_skip ?_; try simp only [ex_seq, ex_block]))
      exact hK (n + 1) _ _ ⟨by omega, by omega⟩ ⟨⟨rfl, rfl, trivial⟩, Keep.refl _, rfl, rfl, Nat.le_refl _, Nat.le_refl _⟩ (by omega)
  · repeat (first | refine tr_seq_k fun _ _ => ?_ | (refine tr_region ?_; simp only [go_sem, reduceCtorEq, Nat.reduceEqDiff, Nat.reduceLT, ↓reduceIte]) | refine k_of (by assumption) ?_ | (refine tr_exit ?_; try simp only [ex_seq_exit, ex_block_exit, ex_seq, ↓reduceIte]) | (refine tr_ret ?_; try simp only [ex_seq_ret, ex_block_ret]))
    refine (hQ _ _ [bA true] ?_ (fun m => rfl)).2 <;> simp only [go_sem, reduceCtorEq, Nat.reduceEqDiff, ↓reduceIte, Tryz.f24]
/-! ### the document's constants -/
theorem r3names_does {a : Atm} (ha : Atm.okay a) : Does Tryz.prog 53 [atA a, bA false] (fun m => (slS false (pnames a false), m)) := by
  refine does_of_rd (size := 1) vals_st one_st (callable Tryz.func53 (by kernel_rfl)) fun X w vs hc hr => ?_
  obtain ⟨v, v2, hv, h1, h2⟩ := reps2 hr
  rw [arr2 hv, val_rep (val_at a) h1, val_rep (y := .bool false) rfl h2]
  refine (names_any ha false).mono ?_
  rintro _ w' ⟨v, rfl, C⟩
  exact ⟨v, rfl, by rw [flat_st]; exact Rd.of_own C.1, C.2.1, C.2.2⟩
theorem r3consts_does {a : Atm} (ha : Atm.okay a) : Does Tryz.prog 27 [atA a] (fun m => (slS false (pnames a false), m)) := by
  have c1 := r3names_does ha
  refine does_of' Tryz.func27 rfl (by kernel_rfl) rfl Tryz.ntmps27 rfl rfl fun Q hQ => ?_
  repeat (first | refine tr_seq_k fun _ _ => ?_ | (refine tr_region ?_; simp only [go_sem, reduceCtorEq, Nat.reduceEqDiff, Nat.reduceLT, Nat.reduceLeDiff, Nat.reduceAdd, ↓reduceIte]) | (refine call_of (c1) ?_ ?_; (first | rfl | simp only [go_sem, reduceCtorEq, Nat.reduceEqDiff, Nat.reduceLT, Nat.reduceLeDiff, Nat.reduceAdd, Nat.reduceMul, Nat.reduceSub, Nat.reduceBEq, ↓reduceIte, shut_col]); simp only [go_sem]) | refine k_of (by assumption) ?_ | (refine tr_ret ?_; try simp only [ex_seq_ret, ex_block_ret]))
  refine (hQ _ _ [slS false (pnames a false)] ?_ (fun m => rfl)).2 <;> simp only [go_sem, reduceCtorEq, Nat.reduceEqDiff, ↓reduceIte, Tryz.f27]
end Go.Proofs.YtinbfakpjnnagaaGreatDoor
namespace Go.Vs.Sm
variable {T : Type} {lt : T → T → Bool}
theorem mem_srt {x : T} : ∀ (k : Nat) (l : List T), l.length = k → x ∈ l → x ∈ srt lt l := fun k => by
  induction k with
  | zero => intro l hl h; rw [List.eq_nil_of_length_eq_zero hl] at h; cases h
  | succ k ih =>
    intro l hl h
    have hne : l ≠ [] := fun e => by rw [e] at hl; cases hl
    rw [← List.dropLast_concat_getLast hne, srt_snoc, List.mem_merge]
    rw [← List.dropLast_concat_getLast hne, List.mem_append] at h
    rcases h with h | h
    · exact Or.inl (ih _ (by rw [List.length_dropLast]; omega) h)
    · exact Or.inr h
theorem cm_facts (O : Tot lt) : ∀ (k : Nat) (l : List T), l.length = k → l.Pairwise (fun a b => (!lt b a) = true) →
    (cm lt l).Pairwise (fun a b => lt a b = true) ∧ (∀ x ∈ cm lt l, x ∈ l) ∧ ∀ x ∈ l, ∃ y ∈ cm lt l, eqB lt x y = true := fun k => by
  induction k using Nat.strongRecOn with
  | ind k ih =>
    intro l hl hs
    match l, hl, hs with
    | [], _, _ => exact ⟨List.Pairwise.nil, fun x h => h, fun x h => by cases h⟩
    | y :: r, hl, hs =>
      obtain ⟨h1, h2⟩ := List.pairwise_cons.1 hs
      have hsub := dropEq_sub (lt := lt) y r
      have hle := dropEq_le lt y r
      rw [List.length_cons] at hl
      obtain ⟨g1, g2, g3⟩ := ih _ (by omega) (dropEq lt y r) rfl (h2.sublist hsub)
      have hgt := dropEq_gt O y r h2 (fun x hx => by have := h1 x hx; simpa using this)
      rw [cm_cons]
      refine ⟨List.pairwise_cons.2 ⟨fun z hz => hgt z (g2 z hz), g1⟩, fun x hx => ?_, fun x hx => ?_⟩
      · rcases List.mem_cons.1 hx with rfl | hx
        · exact List.mem_cons_self
        · exact List.mem_cons_of_mem _ (hsub.subset (g2 x hx))
      · by_cases hxd : x ∈ dropEq lt y r
        · obtain ⟨z, hz, e⟩ := g3 x hxd
          exact ⟨z, List.mem_cons_of_mem _ hz, e⟩
        · refine ⟨y, List.mem_cons_self, ?_⟩
          rcases List.mem_cons.1 hx with rfl | hx
          · exact eqB_of (lt_irr O x) (lt_irr O x)
          · have key : ∀ (r : List T), x ∈ r → x ∉ dropEq lt y r → eqB lt x y = true := fun r => by
              induction r with
              | nil => intro h; cases h
              | cons u r ih2 =>
                intro h hn
                unfold dropEq at hn
                by_cases e : eqB lt u y = true
                · rw [if_pos e] at hn
                  rcases List.mem_cons.1 h with rfl | h
                  · exact e
                  · exact ih2 h hn
                · rw [if_neg e] at hn
                  exact absurd h hn
            exact key r hx hxd
end Go.Vs.Sm
namespace Go.Proofs.YtinbfakpjnnagaaGreatDoor
open Go.RowKit Go.Vs Go.Vs.Ab Go.Vs.Sm
set_option maxRecDepth 100000
set_option maxHeartbeats 4000000
/-! ### a form's text tells the form -/
theorem prin_chars {s : ByteArray} (h : pprincipal s = true) : ∀ c ∈ s.data.toList, c.toNat ≠ 32 ∧ c.toNat ≠ 40 := fun c hc => by
  unfold pprincipal pconstant pconst0 at h
  simp only [Bool.and_eq_true, List.all_eq_true] at h
  have := h.1.1.2 c hc
  simp only [constB, lowerB, digB, underB, Bool.or_eq_true, Bool.and_eq_true, decide_eq_true_eq] at this
  omega
theorem cut_eq {p : UInt8 → Prop} {a b x y : List UInt8} (ha : ∀ c ∈ a, ¬ p c) (hb : ∀ c ∈ b, ¬ p c) (hx : ∀ c r, x = c :: r → p c) (hy : ∀ c r, y = c :: r → p c) (h : a ++ x = b ++ y) : a = b ∧ x = y := by
  induction a generalizing b with
  | nil =>
    cases b with
    | nil => exact ⟨rfl, h⟩
    | cons c b =>
      exact absurd (hx c (b ++ y) h) (hb c List.mem_cons_self)
  | cons c a ih =>
    cases b with
    | nil => exact absurd (hy c (a ++ x) h.symm) (ha c List.mem_cons_self)
    | cons d b =>
      rw [List.cons_append, List.cons_append, List.cons.injEq] at h
      obtain ⟨rfl, h⟩ := h
      obtain ⟨e1, e2⟩ := ih (fun z hz => ha z (List.mem_cons_of_mem _ hz)) (fun z hz => hb z (List.mem_cons_of_mem _ hz)) h
      exact ⟨by rw [e1], e2⟩
def tailV : Nat → List UInt8
  | 0 => []
  | 1 => [40, 86, 48, 41]
  | 2 => [40, 86, 48, 44, 32, 86, 49, 41]
  | 3 => [40, 86, 48, 44, 32, 86, 49, 44, 32, 86, 50, 41]
  | _ => [40, 86, 48, 44, 32, 86, 49, 44, 32, 86, 50, 44, 32, 86, 51, 41]
theorem tailV_inj {m n : Nat} (hm : m ≤ 4) (hn : n ≤ 4) (h : tailV m = tailV n) : m = n := by
  have h2 : ∀ m, m ≤ 4 → ∀ n, n ≤ 4 → tailV m = tailV n → m = n := by decide
  exact h2 m hm n hn h
theorem form_count (a : Atm) : (formA a).count = a.count := by
  have h := (formK_rest a a.count a.count_le).2.2
  show Atm.count (formK a a.count) = _
  generalize formK a a.count = f at *
  unfold Atm.count
  rw [h]
theorem form_text (a : Atm) : txA (formA a) = a.says.data.toList ++ ([32, 115, 97, 121, 115, 32] ++ (a.pred.data.toList ++ tailV a.count)) := by
  obtain ⟨h1, h2, h3⟩ := formK_rest a a.count a.count_le
  have hc := form_count a
  have harg : ∀ j, j < a.count → (formA a).arg j = vt j := fun j hj => by
    have := formK_arg a a.count a.count_le j (by have := a.count_le; omega)
    rw [if_pos hj] at this
    exact this
  have h4 := a.count_le
  have hs : (formA a).says = a.says := h1
  have hp : (formA a).pred = a.pred := h2
  unfold txA ptext psaid
  rw [hs, hc]
  generalize formA a = f at *
  generalize a.count = n at *
  have hn : n = 0 ∨ n = 1 ∨ n = 2 ∨ n = 3 ∨ n = 4 := by omega
  rcases hn with rfl | rfl | rfl | rfl | rfl
  · rw [if_neg (by decide), hp]
    simp [tSays, tailV]
  · rw [if_pos (by decide)]
    simp [psaidK, hp, harg 0 (by decide), vt, vname, tSays, tOpen, tShut, tailV]
  · rw [if_pos (by decide)]
    simp [psaidK, hp, harg 0 (by decide), harg 1 (by decide), vt, vname, tSays, tOpen, tComma, tShut, tailV]
  · rw [if_pos (by decide)]
    simp [psaidK, hp, harg 0 (by decide), harg 1 (by decide), harg 2 (by decide), vt, vname, tSays, tOpen, tComma, tShut, tailV]
  · rw [if_pos (by decide)]
    simp [psaidK, hp, harg 0 (by decide), harg 1 (by decide), harg 2 (by decide), harg 3 (by decide), vt, vname, tSays, tOpen, tComma, tShut, tailV]
theorem form_inj {a b : Atm} (ha : pcheck3 a = 0) (hb : pcheck3 b = 0) (h : txA (formA a) = txA (formA b)) : a.says = b.says ∧ a.pred = b.pred ∧ a.n = b.n := by
  obtain ⟨a1, a2, a3, a4, _⟩ := check3_zero ha
  obtain ⟨b1, b2, b3, b4, _⟩ := check3_zero hb
  rw [form_text, form_text] at h
  obtain ⟨e1, e2⟩ := cut_eq (p := fun c => c.toNat = 32) (fun c hc => (prin_chars a1 c hc).1) (fun c hc => (prin_chars b1 c hc).1) (fun c r e => by
    rw [List.cons_append] at e
    injection e with e _
    rw [← e]; decide) (fun c r e => by
    rw [List.cons_append] at e
    injection e with e _
    rw [← e]; decide) h
  have e3 := List.append_cancel_left e2
  have tl : ∀ n c r, tailV n = c :: r → c.toNat = 40 := fun n c r e => by
    match n, e with
    | 0, e => cases e
    | 1, e => injection e with e _; rw [← e]; decide
    | 2, e => injection e with e _; rw [← e]; decide
    | 3, e => injection e with e _; rw [← e]; decide
    | n + 4, e => injection e with e _; rw [← e]; decide
  obtain ⟨e4, e5⟩ := cut_eq (p := fun c => c.toNat = 40) (fun c hc => (prin_chars a2 c hc).2) (fun c hc => (prin_chars b2 c hc).2) (fun c r e => tl _ c r e) (fun c r e => tl _ c r e) e3
  have e6 := tailV_inj a.count_le b.count_le e5
  have ca : (a.count : Int) = a.n := by unfold Atm.count; omega
  have cb : (b.count : Int) = b.n := by unfold Atm.count; omega
  exact ⟨str_inj e1, str_inj e4, by omega⟩
theorem form_congr {a b : Atm} (h1 : a.says = b.says) (h2 : a.pred = b.pred) (h3 : a.n = b.n) : formA a = formA b := by
  have hc : a.count = b.count := by unfold Atm.count; rw [h3]
  have h0 : form0 a = form0 b := by unfold form0; rw [h1, h2, h3]
  have : ∀ k, formK a k = formK b k := fun k => by
    induction k with
    | zero => exact h0
    | succ k ih => show Atm.setArg _ _ _ = Atm.setArg _ _ _; rw [ih]
  unfold formA
  rw [hc]
  exact this _
/-! ### the forms -/
theorem tx_eq {a b : Atm} (h : eqB ltA a b = true) : txA a = txA b := by
  obtain ⟨h1, h2⟩ := eqB_iff.1 h
  exact bl_eq _ _ h1 h2
theorem forms_facts {L : List Atm} (hL : ∀ a ∈ L, pcheck3 a = 0) : (srtA (fdist L)).Pairwise (fun a b => ltA a b = true) ∧ (∀ x ∈ srtA (fdist L), ∃ a ∈ L, x = formA a) ∧ ∀ a ∈ L, formA a ∈ srtA (fdist L) := by
  have O : Tot ltA := totK txA
  obtain ⟨h1, h2, h3⟩ := cm_facts O _ (srt ltA (fdist L)) rfl (srt_sorted O _ _ rfl)
  refine ⟨h1, fun x hx => mem_fdist.1 (srt_mem (h2 x hx)), fun a ha => ?_⟩
  obtain ⟨y, hy, e⟩ := h3 (formA a) (mem_srt _ _ rfl (mem_fdist.2 ⟨a, ha, rfl⟩))
  obtain ⟨b, hb, rfl⟩ := mem_fdist.1 (srt_mem (h2 y hy))
  obtain ⟨e1, e2, e3⟩ := form_inj (hL a ha) (hL b hb) (tx_eq e)
  rw [form_congr e1 e2 e3]
  exact hy
theorem countP_one {T : Type} {P : T → Bool} {x : T} : ∀ {l : List T}, l.Nodup → x ∈ l → (∀ y ∈ l, P y = true ↔ y = x) → l.countP P = 1
  | [], _, hx, _ => by cases hx
  | y :: r, hnd, hx, h => by
    rw [List.nodup_cons] at hnd
    by_cases e : y = x
    · subst e
      have hP := (h y List.mem_cons_self).2 rfl
      have h0 : r.countP P = 0 := by
        rw [List.countP_eq_zero]
        intro z hz hp
        exact hnd.1 ((h z (List.mem_cons_of_mem _ hz)).1 hp ▸ hz)
      rw [List.countP_cons_of_pos hP, h0]
    · have hP : ¬ P y = true := fun hp => e ((h y List.mem_cons_self).1 hp)
      rw [List.countP_cons_of_neg hP]
      exact countP_one hnd.2 ((List.mem_cons.1 hx).resolve_left (fun q => e q.symm)) (fun z hz => h z (List.mem_cons_of_mem _ hz))
theorem countP_next {T : Type} {P : T → Bool} {l : List T} {k : Nat} (h : k < l.length) : (l.take (k + 1)).countP P = (l.take k).countP P + (if P l[k] = true then 1 else 0) := by
  rw [List.take_succ_eq_append_getElem h, List.countP_append]
  congr 1
  split
  · rename_i hp
    rw [List.countP_cons_of_pos hp]
    rfl
  · rename_i hp
    rw [List.countP_cons_of_neg hp]
    rfl
def shB (a x : Atm) : Bool := decide (x.says = a.says) && decide (x.pred = a.pred) && decide (x.n = a.n)
theorem lt_nodup {T : Type} {lt : T → T → Bool} (O : Tot lt) {l : List T} (h : l.Pairwise (fun a b => lt a b = true)) : l.Nodup := by
  rw [List.nodup_iff_pairwise_ne]
  exact h.imp fun {a b} h e => by rw [e, lt_irr O] at h; cases h
theorem forms_count {L : List Atm} (hL : ∀ a ∈ L, pcheck3 a = 0) {a : Atm} (ha : a ∈ L) : (srtA (fdist L)).countP (shB a) = 1 := by
  obtain ⟨h1, h2, h3⟩ := forms_facts hL
  refine countP_one (lt_nodup (totK txA) h1) (h3 a ha) (fun y hy => ?_)
  obtain ⟨b, hb, rfl⟩ := h2 y hy
  obtain ⟨r1, r2, r3⟩ := formK_rest b b.count b.count_le
  obtain ⟨s1, s2, s3⟩ := formK_rest a a.count a.count_le
  unfold shB
  simp only [Bool.and_eq_true, decide_eq_true_eq]
  constructor
  · rintro ⟨⟨e1, e2⟩, e3⟩
    exact form_congr (r1.symm.trans e1) (r2.symm.trans e2) (r3.symm.trans e3)
  · intro e
    have q1 : (formA b).says = a.says := by rw [e]; exact s1
    have q2 : (formA b).pred = a.pred := by rw [e]; exact s2
    have q3 : (formA b).n = a.n := by rw [e]; exact s3
    exact ⟨⟨q1, q2⟩, q3⟩
/-! ### a form's variables -/
theorem vname_inj4 {j k : Nat} (hj : j < 4) (hk : k < 4) (h : vname j = vname k) : j = k := by
  have h2 : ∀ j, j < 4 → ∀ k, k < 4 → (vname j).data.toList = (vname k).data.toList → j = k := by decide
  exact h2 j hj k hk (by rw [h])
theorem form_names (a : Atm) : ∀ k, k ≤ a.count → pnamesK (formA a) true k = (List.range k).map vname
  | 0, _ => rfl
  | k + 1, hk => by
    have h4 := a.count_le
    have ih := form_names a k (by omega)
    have e := formK_arg a a.count a.count_le k (by omega)
    rw [if_pos (by omega)] at e
    have hv : ((formA a).arg k).v = true := by rw [show (formA a).arg k = vt k from e]; rfl
    have hn : ((formA a).arg k).name = vname k := by rw [show (formA a).arg k = vt k from e]; rfl
    rw [pnamesK_new (by omega) hv (by
      rw [hn, ih]
      intro h
      obtain ⟨j, hj, e⟩ := List.mem_map.1 h
      rw [List.mem_range] at hj
      have := vname_inj4 (by omega) (by omega) e
      omega), ih, hn, List.range_succ, List.map_append]
    rfl
theorem form_vars {a : Atm} (h : pcheck3 a = 0) : ((pnames (formA a) true).length : Int) = (formA a).n := by
  obtain ⟨_, _, h3, h4, _⟩ := check3_zero h
  have hr := (formK_rest a a.count a.count_le).2.2
  unfold pnames
  rw [form_count, form_names a a.count (Nat.le_refl _), List.length_map, List.length_range, show (formA a).n = a.n from hr]
  unfold Atm.count
  omega
theorem posOf_range {n k : Nat} (hn : n ≤ 4) (hk : k < n) : posOf ((List.range n).map vname) (vname k) = k := by
  refine posOf_here (by rw [List.length_map, List.length_range]; exact hk) ?_ (by rw [List.getElem_map, List.getElem_range])
  intro h
  rw [← List.map_take, List.take_range, Nat.min_eq_left (by omega)] at h
  obtain ⟨j, hj, e⟩ := List.mem_map.1 h
  rw [List.mem_range] at hj
  have := vname_inj4 (by omega) (by omega) e
  omega
theorem form_canon (a : Atm) : pcanon (formA a) = formA a := by
  have h4 := a.count_le
  have hc := form_count a
  have key : ∀ k, k ≤ a.count → (formA a).upto (pct (pnames (formA a) true)) k = formA a := fun k => by
    induction k with
    | zero => intro _; rfl
    | succ k ih =>
      intro hk
      have ih := ih (by omega)
      rw [upto_same (by omega) ?_]
      · exact ih
      · have e := formK_arg a a.count a.count_le k (by omega)
        rw [if_pos (by omega)] at e
        rw [show (formA a).arg k = vt k from e]
        unfold pct vt
        rw [if_pos rfl]
        unfold pnames
        rw [hc, form_names a a.count (Nat.le_refl _), posOf_range h4 (by omega)]
  unfold pcanon
  rw [hc]
  exact key a.count (Nat.le_refl _)
end Go.Proofs.YtinbfakpjnnagaaGreatDoor
namespace Go.Proofs.YtinbfakpjnnagaaGreatDoor
open Go.Vs Go.Vs.Ab
set_option maxRecDepth 100000
set_option maxHeartbeats 4000000
theorem posOf_ne {x : ByteArray} : ∀ {l : List ByteArray} {j : Nat}, j < posOf l x → ∀ (h : j < l.length), l[j] ≠ x
  | [], j, h, hl => by simp at hl
  | y :: r, j, h, hl => by
    unfold posOf at h
    by_cases e : y = x
    · rw [if_pos e] at h; omega
    · rw [if_neg e] at h
      cases j with
      | zero => simpa using e
      | succ j =>
        simp only [List.getElem_cons_succ]
        exact posOf_ne (by omega) _
theorem r7canon_does (a : Atm) (ha : Atm.okay a) : Does Tryz.prog 26 [atA a] (fun m => (atA (pcanon a), m)) := by
  have h4 := a.count_le
  have cv := vars_does ha
  have hVl := pvars_len a
  refine does_of' Tryz.func26 rfl (by kernel_rfl) rfl Tryz.ntmps26 rfl rfl fun Q hQ => ?_
  repeat (first | refine tr_seq_k fun _ _ => ?_ | (refine tr_region ?_; simp only [go_sem, reduceCtorEq, Nat.reduceEqDiff, Nat.reduceLT, Nat.reduceLeDiff, Nat.reduceAdd, ↓reduceIte]) | (refine call_of (cv) ?_ ?_; (first | rfl | simp only [go_sem, reduceCtorEq, Nat.reduceEqDiff, Nat.reduceLT, Nat.reduceLeDiff, Nat.reduceAdd, Nat.reduceMul, Nat.reduceSub, Nat.reduceBEq, ↓reduceIte, shut_col]); simp only [go_sem]) | refine k_of (by assumption) ?_ | refine tr_block ?_)
  refine tr_loop_k (σ := Nat) (fun k => [(1, .ptr 0 0), (2, .ptr 1 0), (3, slS false (pnames a true)), (4, iA k)]) (fun k => ⟨[⟨false, ([.c (.v (.string (a.upto (pct (pnames a true)) k).says)), .c (.v (.string (a.upto (pct (pnames a true)) k).pred)), .c (.v (.int .i64 (a.upto (pct (pnames a true)) k).n)), .c (.v (.bool (a.upto (pct (pnames a true)) k).a0.v)), .c (.v (.string (a.upto (pct (pnames a true)) k).a0.name)), .c (.v (.bool (a.upto (pct (pnames a true)) k).a1.v)), .c (.v (.string (a.upto (pct (pnames a true)) k).a1.name)), .c (.v (.bool (a.upto (pct (pnames a true)) k).a2.v)), .c (.v (.string (a.upto (pct (pnames a true)) k).a2.name)), .c (.v (.bool (a.upto (pct (pnames a true)) k).a3.v)), .c (.v (.string (a.upto (pct (pnames a true)) k).a3.name))] : List AV)⟩, ⟨false, (atC zAt).map .c⟩], []⟩)
    (fun k => k ≤ a.count) (fun k => a.count - k) 0 (Nat.zero_le _) ⟨rfl, rfl, rfl, rfl, trivial⟩ rfl ?_
  rintro k hk K hK
  have cc := count_does (a.upto (pct (pnames a true)) k)
  rw [upto_count] at cc
  repeat (first | refine tr_seq_k fun _ _ => ?_ | (refine tr_region ?_; simp only [go_sem, Nat.reduceEqDiff, Nat.reduceLT, Nat.reduceLeDiff, Nat.reduceAdd, ↓reduceIte]) | (refine call_of (cc) ?_ ?_; (first | rfl | simp only [go_sem, reduceCtorEq, Nat.reduceEqDiff, Nat.reduceLT, Nat.reduceLeDiff, Nat.reduceAdd, Nat.reduceMul, Nat.reduceSub, Nat.reduceBEq, ↓reduceIte, shut_col]); simp only [go_sem, Nat.reduceEqDiff, Nat.reduceLT, ↓reduceIte]) | refine k_of (by assumption) ?_)
  refine tr_cond rfl (fun ht => ?_) (fun hf => ?_)
  · have hlt : k < a.count := by simpa using ht
    have hk4 : k < 4 := by omega
    have ws := wrap_succ (show k ≤ 1000000000 by omega)
    have hv := atV (a.upto (pct (pnames a true)) k) hk4
    have hs := atS (a.upto (pct (pnames a true)) k) hk4
    rw [upto_here _ _ hk4] at hv hs
    cases h1 : (a.arg k).v with
    | false =>
      rw [h1] at hv
      have hsame := upto_same (f := pct (pnames a true)) hk4 (by unfold pct; rw [h1]; rfl)
      repeat (first | refine tr_seq_k fun _ _ => ?_ | (refine tr_region ?_; simp only [go_sem, Nat.reduceEqDiff, Nat.reduceLT, ↓reduceIte]) | refine k_of (by assumption) ?_ | refine tr_block ?_ | (refine tr_skip ?_; try simp only [ex_seq]))
      refine tr_loop_k (σ := Nat) (fun _ => [(1, .ptr 0 0), (2, .ptr 1 0), (3, slS false (pnames a true)), (4, iA k), (5, iA 0)]) (fun _ => ⟨[⟨false, ([.c (.v (.string (a.upto (pct (pnames a true)) k).says)), .c (.v (.string (a.upto (pct (pnames a true)) k).pred)), .c (.v (.int .i64 (a.upto (pct (pnames a true)) k).n)), .c (.v (.bool (a.upto (pct (pnames a true)) k).a0.v)), .c (.v (.string (a.upto (pct (pnames a true)) k).a0.name)), .c (.v (.bool (a.upto (pct (pnames a true)) k).a1.v)), .c (.v (.string (a.upto (pct (pnames a true)) k).a1.name)), .c (.v (.bool (a.upto (pct (pnames a true)) k).a2.v)), .c (.v (.string (a.upto (pct (pnames a true)) k).a2.name)), .c (.v (.bool (a.upto (pct (pnames a true)) k).a3.v)), .c (.v (.string (a.upto (pct (pnames a true)) k).a3.name))] : List AV)⟩, ⟨false, (atC zAt).map .c⟩], []⟩)
        (fun _ => True) (fun _ => 0) 0 trivial ⟨rfl, rfl, rfl, rfl, rfl, trivial⟩ rfl ?_
      rintro q _ K2 hK2
      cases h0 : decide ((0 : Int) < ((pnames a true).length : Int)) with
      | false =>
        repeat (first | refine tr_seq_k fun _ _ => ?_ | (refine tr_region ?_; simp only [go_sem, List.getElem?_toArray, Nat.reduceEqDiff, Nat.reduceLT, ↓reduceIte, h0]) | refine k_of (by assumption) ?_)
        refine tr_cond rfl (fun ht => ?_) (fun hf => ?_)
        · cases ht
        · repeat (first | (refine tr_region ?_; simp only [go_sem, Nat.reduceEqDiff, Nat.reduceLT, ↓reduceIte, ws]) | refine k_of (by assumption) ?_ | (refine tr_exit ?_; try simp only [ex_seq_exit, ex_block_exit, ex_seq, ex_block, ↓reduceIte]))
          exact hK (k + 1) _ _ hlt ⟨⟨rfl, rfl, rfl, rfl, trivial⟩, by rw [hsame]; exact Keep.refl _, rfl, rfl, Nat.le_refl _, Nat.le_refl _⟩ (by omega)
      | true =>
        repeat (first | refine tr_seq_k fun _ _ => ?_ | (refine tr_region ?_; simp only [go_sem, List.getElem?_toArray, reduceCtorEq, Nat.reduceEqDiff, Nat.reduceLT, ↓reduceIte, h0, arrT hk4, hv]) | refine k_of (by assumption) ?_)
        refine tr_cond rfl (fun ht => ?_) (fun hf => ?_)
        · cases ht
        · repeat (first | (refine tr_region ?_; simp only [go_sem, Nat.reduceEqDiff, Nat.reduceLT, ↓reduceIte, ws]) | refine k_of (by assumption) ?_ | (refine tr_exit ?_; try simp only [ex_seq_exit, ex_block_exit, ex_seq, ex_block, ↓reduceIte]))
          exact hK (k + 1) _ _ hlt ⟨⟨rfl, rfl, rfl, rfl, trivial⟩, by rw [hsame]; exact Keep.refl _, rfl, rfl, Nat.le_refl _, Nat.le_refl _⟩ (by omega)
    | true =>
      rw [h1] at hv
      have hmem := name_mem hlt h1
      have hP := posOf_lt hmem
      have hPg := posOf_get hmem
      have hst := atSetN (a.upto (pct (pnames a true)) k) hk4 (vname (posOf (pnames a true) (a.arg k).name))
      rw [upto_here _ _ hk4, canon_step hlt h1 rfl] at hst
      have ci := digits_does (k := posOf (pnames a true) (a.arg k).name) (by omega)
      have vc := vcat (n := posOf (pnames a true) (a.arg k).name) (by omega)
      repeat (first | refine tr_seq_k fun _ _ => ?_ | (refine tr_region ?_; simp only [go_sem, Nat.reduceEqDiff, Nat.reduceLT, ↓reduceIte]) | refine k_of (by assumption) ?_ | refine tr_block ?_ | (refine tr_skip ?_; try simp only [ex_seq]))
      refine tr_loop_k (σ := Nat) (fun q => [(1, .ptr 0 0), (2, .ptr 1 0), (3, slS false (pnames a true)), (4, iA k), (5, iA q)]) (fun _ => ⟨[⟨false, ([.c (.v (.string (a.upto (pct (pnames a true)) k).says)), .c (.v (.string (a.upto (pct (pnames a true)) k).pred)), .c (.v (.int .i64 (a.upto (pct (pnames a true)) k).n)), .c (.v (.bool (a.upto (pct (pnames a true)) k).a0.v)), .c (.v (.string (a.upto (pct (pnames a true)) k).a0.name)), .c (.v (.bool (a.upto (pct (pnames a true)) k).a1.v)), .c (.v (.string (a.upto (pct (pnames a true)) k).a1.name)), .c (.v (.bool (a.upto (pct (pnames a true)) k).a2.v)), .c (.v (.string (a.upto (pct (pnames a true)) k).a2.name)), .c (.v (.bool (a.upto (pct (pnames a true)) k).a3.v)), .c (.v (.string (a.upto (pct (pnames a true)) k).a3.name))] : List AV)⟩, ⟨false, (atC zAt).map .c⟩], []⟩)
        (fun q => q ≤ posOf (pnames a true) (a.arg k).name) (fun q => 4 - q) 0 (Nat.zero_le _) ⟨rfl, rfl, rfl, rfl, rfl, trivial⟩ rfl ?_
      rintro q hq K2 hK2
      have hql : q < (pnames a true).length := by omega
      have h0 : decide ((q : Int) < ((pnames a true).length : Int)) = true := decide_eq_true (by omega)
      have wq := wrap_succ (show q ≤ 1000000000 by omega)
      repeat (first | refine tr_seq_k fun _ _ => ?_ | (refine tr_region ?_; simp only [go_sem, List.getElem?_toArray, reduceCtorEq, Nat.reduceEqDiff, Nat.reduceLT, ↓reduceIte, h0, arrT hk4, hv]) | refine k_of (by assumption) ?_)
      refine tr_cond rfl (fun ht => ?_) (fun hf => ?_)
      · by_cases e : q = posOf (pnames a true) (a.arg k).name
        · have hge : (pnames a true)[q] = (a.arg k).name := by
            have := List.getElem?_eq_some_iff.1 hPg
            obtain ⟨_, h⟩ := this
            simp only [e]
            exact h
          have heq : decide ((pnames a true)[q] = (a.arg k).name) = true := decide_eq_true hge
          subst e
          repeat (first | refine tr_seq_k fun _ _ => ?_ | (refine tr_drawC (id := 8) follows 10000 (by kernel_rfl) ?_; simp only [go_sem, reduceCtorEq, Nat.reduceEqDiff, Nat.reduceLT, ↓reduceIte, idxS hql, arrT hk4, hs, heq]) | refine k_of (by assumption) ?_ | refine tr_block ?_ | (refine tr_skip ?_; try simp only [ex_seq]))
          refine tr_cond rfl (fun ht => ?_) (fun hf => ?_)
          · repeat (first | refine tr_seq_k fun _ _ => ?_ | (refine tr_region ?_; simp only [go_sem, List.getElem?_toArray, reduceCtorEq, Nat.reduceEqDiff, Nat.reduceLT, ↓reduceIte, ws]) | (refine call_of (ci) ?_ ?_; (first | rfl | simp only [go_sem, reduceCtorEq, Nat.reduceEqDiff, Nat.reduceLT, Nat.reduceLeDiff, Nat.reduceAdd, Nat.reduceMul, Nat.reduceSub, Nat.reduceBEq, ↓reduceIte, arrT hk4, vc, leN hk4, hst, ws, shut_col]); simp only [go_sem, Nat.reduceEqDiff, Nat.reduceLT, Nat.reduceLeDiff, Nat.reduceAdd, ↓reduceIte, arrT hk4, vc, leN hk4, hst]) | refine k_of (by assumption) ?_ | (refine tr_exit ?_; try simp only [ex_seq_exit, ex_block_exit, Nat.reduceEqDiff, ex_seq, ex_block, ↓reduceIte]))
            exact hK (k + 1) _ _ hlt ⟨⟨rfl, rfl, rfl, rfl, trivial⟩, Keep.refl _, rfl, rfl, Nat.le_refl _, Nat.le_refl _⟩ (by omega)
          · cases hf
        · have heq : decide ((pnames a true)[q] = (a.arg k).name) = false := decide_eq_false fun h => posOf_ne (show q < posOf (pnames a true) (a.arg k).name by omega) hql h
          repeat (first | refine tr_seq_k fun _ _ => ?_ | (refine tr_drawC (id := 8) follows 10000 (by kernel_rfl) ?_; simp only [go_sem, reduceCtorEq, Nat.reduceEqDiff, Nat.reduceLT, ↓reduceIte, idxS hql, arrT hk4, hs, heq]) | refine k_of (by assumption) ?_ | refine tr_block ?_ | (refine tr_skip ?_; try simp only [ex_seq]))
          refine tr_cond rfl (fun ht => ?_) (fun hf => ?_)
          · cases ht
          · repeat (first | (refine tr_region ?_; simp only [go_sem, Nat.reduceEqDiff, Nat.reduceLT, ↓reduceIte, wq]) | refine k_of (by assumption) ?_ | (refine tr_skip ?_; try simp only [ex_seq, ex_block]))
            exact hK2 (q + 1) _ _ (by omega) ⟨⟨rfl, rfl, rfl, rfl, rfl, trivial⟩, Keep.refl _, rfl, rfl, Nat.le_refl _, Nat.le_refl _⟩ (by omega)
      · cases hf
  · have hkl : k = a.count := by
      have := of_decide_eq_false hf
      omega
    subst hkl
    repeat (first | refine tr_seq_k fun _ _ => ?_ | (refine tr_region ?_; simp only [go_sem, Nat.reduceEqDiff, Nat.reduceLT, Nat.reduceLeDiff, Nat.reduceAdd, ↓reduceIte]) | refine k_of (by assumption) ?_ | (refine tr_exit ?_; try simp only [ex_seq_exit, ex_block_exit, ex_seq, ↓reduceIte]) | (refine tr_ret ?_; try simp only [ex_seq_ret, ex_block_ret]))
    refine (hQ _ _ [atA (a.upto (pct (pnames a true)) a.count)] ?_ (fun m => rfl)).2 <;> simp only [go_sem, Nat.reduceEqDiff, Nat.reduceLeDiff, Nat.reduceAdd, ↓reduceIte, Tryz.f26]
end Go.Proofs.YtinbfakpjnnagaaGreatDoor
namespace Go.Proofs.YtinbfakpjnnagaaGreatDoor
open Go.RowKit Go.Vs Go.Vs.Ab Go.Vs.Sm
set_option maxRecDepth 100000
set_option maxHeartbeats 4000000
theorem sortB_facts {l : List ByteArray} (hnd : l.Nodup) : (sortB l).Pairwise (fun a b => blt a b = true) ∧ (∀ x, x ∈ sortB l ↔ x ∈ l) ∧ (sortB l).Nodup := by
  have tr : ∀ a b c : List UInt8, leB a b = true → leB b c = true → leB a c = true := fun a b c h1 h2 => by simp only [leB, decide_eq_true_eq] at *; exact List.le_trans h1 h2
  have tt : ∀ a b : List UInt8, (leB a b || leB b a) = true := fun a b => by simp only [leB, Bool.or_eq_true, decide_eq_true_eq]; exact List.le_total a b
  have hp := List.mergeSort_perm (l.map fun s => s.data.toList) leB
  have hs := List.pairwise_mergeSort tr tt (l.map fun s => s.data.toList)
  have hn : ((l.map fun s => s.data.toList).mergeSort leB).Nodup := by
    rw [hp.nodup_iff]
    rw [List.nodup_iff_pairwise_ne, List.pairwise_map]
    rw [List.nodup_iff_pairwise_ne] at hnd
    exact hnd.imp fun h e => h (str_inj e)
  have hm : ∀ x, x ∈ sortB l ↔ x ∈ l := fun x => by
    unfold sortB
    rw [List.mem_map]
    constructor
    · rintro ⟨y, hy, rfl⟩
      obtain ⟨s, hs, rfl⟩ := List.mem_map.1 (hp.mem_iff.1 hy)
      exact hs
    · intro h
      exact ⟨x.data.toList, hp.mem_iff.2 (List.mem_map.2 ⟨x, h, rfl⟩), rfl⟩
  have hb : (sortB l).Pairwise (fun a b => blt a b = true) := by
    unfold sortB
    rw [List.pairwise_map]
    rw [List.nodup_iff_pairwise_ne] at hn
    refine (hs.and hn).imp fun {a b} h => ?_
    show Op.bytesLess (ByteArray.toList _) (ByteArray.toList _) = true
    rw [ByteArray.toList_eq, ByteArray.toList_eq]
    show Op.bytesLess a b = true
    rw [Go.Proofs.bytesLess_eq]
    have h1 : a ≤ b := of_decide_eq_true h.1
    refine decide_eq_true ?_
    rcases bl_total a b with h2 | h2 | h2
    · rwa [bytesLess_eq, decide_eq_true_eq] at h2
    · exact absurd h2 h.2
    · rw [bytesLess_eq, decide_eq_true_eq] at h2
      exact absurd h1 (List.not_le.2 h2)
  refine ⟨hb, hm, ?_⟩
  rw [List.nodup_iff_pairwise_ne]
  exact hb.imp fun {a b} h e => by rw [e, blt_irrefl] at h; cases h
/-! ### a head and a body in one list -/
theorem all_ex (h : Atm) (l : List Atm) (ex : Bool) (hl : l.length ≤ 1000000) :
    (∀ hp, aAppend Tryz.prog ⟨hp, []⟩ 34 (.c (.sl true 1 [.v (.string h.says), .v (.string h.pred), .v (.int .i64 h.n), .v (.bool h.a0.v), .v (.string h.a0.name), .v (.bool h.a1.v), .v (.string h.a1.name), .v (.bool h.a2.v), .v (.string h.a2.name), .v (.bool h.a3.v), .v (.string h.a3.name)])) (.c (slC atC ex l)) = some (.c (.sl true (h :: l).length ((h :: l).flatMap atC)), ⟨hp, []⟩)) ∨
    (∀ hp, aAppend Tryz.prog ⟨hp, []⟩ 34 (.c (.sl true 1 [.v (.string h.says), .v (.string h.pred), .v (.int .i64 h.n), .v (.bool h.a0.v), .v (.string h.a0.name), .v (.bool h.a1.v), .v (.string h.a1.name), .v (.bool h.a2.v), .v (.string h.a2.name), .v (.bool h.a3.v), .v (.string h.a3.name)])) (.c (slC atC ex l)) = some (.own 0 (h :: l).length ((h :: l).flatMap atC), ⟨hp, [⟨(h :: l).length, 33, 11⟩]⟩)) := by
  by_cases h0 : l = []
  · subst h0
    refine Or.inl fun hp => ?_
    have hf : fits 1 0 11 136 11 0 = true := by decide
    have i3 := info_a
    simp only [aAppend, Tryz.underlying34, i3, slV, dst, List.flatMap_nil, List.length_nil, Nat.beq_refl]
    rfl
  · refine Or.inr fun hp => ?_
    have hf : fits 1 l.length 11 136 11 (l.flatMap atC).length = true := by
      have h1 : Nat.ble (1 + l.length) maxLen = true := by rw [Nat.ble_eq]; exact Nat.le_trans (show 1 + l.length ≤ 1000001 by omega) (by decide)
      have h2 : Nat.ble ((1 + l.length) * 136) 140737488355328 = true := by rw [Nat.ble_eq]; omega
      simp only [fits, flat_length atC 11 (fun _ => rfl), h1, h2, Nat.beq_refl, Bool.and_self, Nat.one_mul]
    have hv : slV (.c (slC atC ex l)) = some (l.length, l.flatMap atC) := rfl
    have hd : dst (.c (.sl true 1 [.v (.string h.says), .v (.string h.pred), .v (.int .i64 h.n), .v (.bool h.a0.v), .v (.string h.a0.name), .v (.bool h.a1.v), .v (.string h.a1.name), .v (.bool h.a2.v), .v (.string h.a2.name), .v (.bool h.a3.v), .v (.string h.a3.name)])) = .exact 1 [.v (.string h.says), .v (.string h.pred), .v (.int .i64 h.n), .v (.bool h.a0.v), .v (.string h.a0.name), .v (.bool h.a1.v), .v (.string h.a1.name), .v (.bool h.a2.v), .v (.string h.a2.name), .v (.bool h.a3.v), .v (.string h.a3.name)] := rfl
    have hz : Nat.beq l.length 0 = false := by
      rw [Bool.eq_false_iff]
      exact fun e => h0 (List.eq_nil_of_length_eq_zero (Nat.eq_of_beq_eq_true e))
    have hlc : List.length ([.v (.string h.says), .v (.string h.pred), .v (.int .i64 h.n), .v (.bool h.a0.v), .v (.string h.a0.name), .v (.bool h.a1.v), .v (.string h.a1.name), .v (.bool h.a2.v), .v (.string h.a2.name), .v (.bool h.a3.v), .v (.string h.a3.name)] : List CV) = 11 := rfl
    have i3 := info_a
    simp only [aAppend, Tryz.underlying34, i3, hv, hd, hlc, hf, if_true, hz, List.length_nil, List.nil_append, List.length_cons, List.flatMap_cons]
    rw [Nat.add_comm 1]
    rfl
theorem cm_len {T : Type} {lt : T → T → Bool} : ∀ (k : Nat) (l : List T), l.length = k → (cm lt l).length ≤ l.length := fun k => by
  induction k using Nat.strongRecOn with
  | ind k ih =>
    intro l hl
    match l, hl with
    | [], _ => exact Nat.le_refl _
    | y :: r, hl =>
      rw [List.length_cons] at hl
      have h1 := dropEq_le lt y r
      have h2 := ih _ (by omega) (dropEq lt y r) rfl
      rw [cm_cons, List.length_cons, List.length_cons]
      omega
theorem srtA_len (l : List Atm) : (srtA l).length ≤ l.length := by
  have h1 := cm_len (lt := ltA) _ (srt ltA l) rfl
  rw [srt_len ltA _ l rfl] at h1
  exact h1
theorem idxAv {av : AV} {l : List Atm} (h : slV av = some (l.length, l.flatMap atC)) {k : Nat} (hk : k < l.length) : aIndexAddr Tryz.prog 34 av (.c (.v (.int .i64 (k : Int)))) = some (.cptr (atC l[k] ++ (l.drop (k + 1)).flatMap atC)) := by
  have := idxA12 (ex := false) hk
  have e : slV (.c (slC atC false l)) = some (l.length, l.flatMap atC) := rfl
  unfold aIndexAddr at this ⊢
  rw [h]
  rw [e] at this
  exact this
end Go.Proofs.YtinbfakpjnnagaaGreatDoor
