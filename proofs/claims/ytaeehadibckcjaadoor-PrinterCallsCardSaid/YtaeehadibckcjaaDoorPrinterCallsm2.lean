/-
  Part 2 of the proof's own texts: general lemmas and contracts of functions, laid one behind the other.
-/
import Derived.Test.YtaeehadibckcjaaDoorPrinterCallsm1
import Derived.Lib.ItoaLen
import Derived.Test.YtaeehadibckcjaaDoorAq
import Derived.SizedLaws
/-
  Chapter 11: lines, bodies, rules, grants, goals, as texts.
-/
set_option linter.unusedSimpArgs false
set_option linter.unusedVariables false
namespace Go.Proofs.YtaeehadibckcjaaDoor
open Go.RowKit Go.Vs Go.Vs.Ab
set_option maxRecDepth 100000
set_option maxHeartbeats 4000000
theorem chain {b : Nat} (oo : Nat → ByteArray) (G : Nat → Mm → Mm → Prop) {m : Mm} (h : PgM m b (oo 0)) : ∀ n : Nat, (∀ k, k < n → ∀ m', PgM m' b (oo k) → m'.hw = m.hw → ∃ m2, G k m' m2 ∧ PgM m2 b (oo (k + 1)) ∧ KpP m' m2) →
    ∃ ms : Nat → Mm, ms 0 = m ∧ (∀ k, k ≤ n → PgM (ms k) b (oo k) ∧ KpP m (ms k)) ∧ ∀ k, k < n → G k (ms k) (ms (k + 1))
  | 0, _ => ⟨fun _ => m, rfl, fun k hk => by
      obtain rfl : k = 0 := by omega
      exact ⟨h, KpP.refl m⟩, fun k hk => absurd hk (Nat.not_lt_zero _)⟩
  | n + 1, hs => by
    obtain ⟨ms, c0, c1, c2⟩ := chain oo G h n (fun k hk => hs k (by omega))
    obtain ⟨m', g1, g2, g3⟩ := hs n (by omega) (ms n) (c1 n (Nat.le_refl _)).1 (c1 n (Nat.le_refl _)).2.hw
    refine ⟨fun i => if i ≤ n then ms i else m', ?_, fun k hk => ?_, fun k hk => ?_⟩
    · show (if 0 ≤ n then ms 0 else m') = m
      rw [if_pos (Nat.zero_le _)]
      exact c0
    · show PgM (if k ≤ n then ms k else m') b _ ∧ KpP m (if k ≤ n then ms k else m')
      by_cases hkn : k ≤ n
      · rw [if_pos hkn]
        exact c1 k hkn
      · rw [if_neg hkn]
        obtain rfl : k = n + 1 := by omega
        exact ⟨g2, (c1 n (Nat.le_refl _)).2.trans g3⟩
    · show G k (if k ≤ n then ms k else m') (if k + 1 ≤ n then ms (k + 1) else m')
      rw [if_pos (by omega)]
      by_cases hk2 : k + 1 ≤ n
      · rw [if_pos hk2]
        exact c2 k (by omega)
      · rw [if_neg hk2]
        obtain rfl : k = n := by omega
        exact g1
theorem build2T (x y : ByteArray) : aBuildSlice Tryd.prog 23 2 [(0, .c (.v (.string x))), (1, .c (.v (.string y)))] = some [.v (.string x), .v (.string y)] := by
  simp only [aBuildSlice, Tryd.underlying23, sz9, ze9]
  rfl
theorem build4T (x y z u : ByteArray) : aBuildSlice Tryd.prog 23 4 [(0, .c (.v (.string x))), (1, .c (.v (.string y))), (2, .c (.v (.string z))), (3, .c (.v (.string u)))] = some [.v (.string x), .v (.string y), .v (.string z), .v (.string u)] := by
  simp only [aBuildSlice, Tryd.underlying23, sz9, ze9]
  rfl
theorem build5T (x y z u v : ByteArray) : aBuildSlice Tryd.prog 23 5 [(0, .c (.v (.string x))), (1, .c (.v (.string y))), (2, .c (.v (.string z))), (3, .c (.v (.string u))), (4, .c (.v (.string v)))] = some [.v (.string x), .v (.string y), .v (.string z), .v (.string u), .v (.string v)] := by
  simp only [aBuildSlice, Tryd.underlying23, sz9, ze9]
  rfl
theorem two_max : (2 ≤ maxLen) = True := eq_true (by decide)
theorem five_max : (5 ≤ maxLen) = True := eq_true (by decide)
attribute [go_sem] one_max two_max four_max five_max build1T build2T build4T build5T
abbrev tDot : ByteArray := ⟨#[46, 10]⟩
abbrev tIf : ByteArray := ⟨#[32, 105, 102, 32]⟩
theorem app_e (s : ByteArray) : s ++ ⟨#[]⟩ = s := app_none rfl
theorem cat1 (s : ByteArray) : catB [s] = s := app_e s
theorem cat2 (s t : ByteArray) : catB [s, t] = s ++ t := by
  show s ++ (t ++ ⟨#[]⟩) = _
  rw [app_e]
theorem two_le (s t : ByteArray) : [s, t].length ≤ 1000000 := Nat.le_of_ble_eq_true rfl
theorem line_page {m : Mm} {b : Nat} {o : ByteArray} (h : PgM m b o) (l : List ByteArray) (ex : Bool) (hl : l.length ≤ 1000000) (hlen : o.size + (catB l).size + 2 ≤ 140737488355328) :
    ∃ m', GivesW Tryd.prog 36 [.ptr b 0, slS ex l] m (.tup []) m' ∧ PgM m' b ((o ++ catB l) ++ tDot) ∧ KpP m m' := by
  obtain ⟨m1, c1, h1, k1⟩ := put_page h l ex hl (by omega)
  obtain ⟨m2, c2, h2, k2⟩ := put_page h1 [tDot] true (by decide) (by rw [app_size, cat1]; exact hlen)
  rw [cat1] at h2
  refine ⟨m2, ?_, h2, k1.trans k2⟩
  have c2 : GivesW Tryd.prog 47 [.ptr b 0, .c (.sl true 1 [.v (.string tDot)])] m1 (.tup []) m2 := c2
  refine givesW_of' Tryd.func36 rfl (by kernel_rfl) Tryd.ntmps36 rfl rfl fun Q hQ => ?_
  repeat (first
      | refine tr_seq_k fun _ _ => ?_
      | (refine tr_region ?_; simp only [go_sem, List.getElem?_toArray, str_beq, reduceCtorEq, Nat.reduceEqDiff, Nat.reduceLT, Nat.reduceLeDiff, Nat.reduceAdd, Nat.reduceMul, Nat.reduceSub, Nat.reduceBEq, ↓reduceIte, bne_self_eq_false, Bool.and_false, Bool.false_and, Bool.true_or, Bool.false_or])
      | (refine call_givesW (c1) ?_; (try dsimp only); (try simp only [go_sem, List.getElem?_toArray, str_beq, reduceCtorEq, Nat.reduceEqDiff, Nat.reduceLT, Nat.reduceLeDiff, Nat.reduceAdd, Nat.reduceMul, Nat.reduceSub, Nat.reduceBEq, ↓reduceIte, bne_self_eq_false, Bool.and_false, Bool.false_and, Bool.true_or, Bool.false_or]))
      | (refine call_givesW (c2) ?_; (try dsimp only); (try simp only [go_sem, List.getElem?_toArray, str_beq, reduceCtorEq, Nat.reduceEqDiff, Nat.reduceLT, Nat.reduceLeDiff, Nat.reduceAdd, Nat.reduceMul, Nat.reduceSub, Nat.reduceBEq, ↓reduceIte, bne_self_eq_false, Bool.and_false, Bool.false_and, Bool.true_or, Bool.false_or]))
      | refine k_of (by assumption) ?_
      | refine tr_block ?_
      | refine tr_scope ?_
      | (refine tr_skip ?_; try simp only [ex_seq, ex_block])
      | (refine tr_label ?_; try simp only [ex_seq, ex_block])
      | (refine tr_exit ?_; try simp only [ex_seq_exit, ex_block_exit, Nat.reduceEqDiff, if_true, if_false, ex_seq, ex_block, reduceCtorEq, ↓reduceIte])
      | (refine tr_ret ?_; try simp only [ex_seq_ret, ex_block_ret]))
  exact (hQ _ _ [] rfl rfl rfl).1
def pbodyK (l : List Atm) : Nat → ByteArray
  | 0 => ⟨#[]⟩
  | k + 1 => pbodyK l k ++ match l[k]? with
    | some a => (if k = 0 then tIf else tComma) ++ ptext a
    | none => ⟨#[]⟩
def pbody (l : List Atm) : ByteArray := pbodyK l l.length
theorem pbodyK_next {l : List Atm} {k : Nat} (h : k < l.length) : pbodyK l (k + 1) = pbodyK l k ++ ((if k = 0 then tIf else tComma) ++ ptext l[k]) := by
  simp only [pbodyK, List.getElem?_eq_getElem h]
theorem ptext_size {a : Atm} (h : AtSz a) : (ptext a).size ≤ 10000000 := by
  obtain ⟨h1, h2, h3⟩ := h
  have hk := psaidK_size ⟨h1, h2, h3⟩ a.count
  have h4 := a.count_le
  have hm : a.count * 1000002 ≤ 4 * 1000002 := Nat.mul_le_mul_right _ h4
  have e1 : tSays.size = 6 := rfl
  have e2 : tShut.size = 1 := rfl
  have h5 : (psaid a).size ≤ 6000000 := by
    unfold psaid
    split
    · rw [app_size, e2]; omega
    · omega
  unfold ptext
  rw [app_size, app_size, e1]
  omega
theorem pbodyK_size {l : List Atm} (h : ∀ a ∈ l, AtSz a) : ∀ k, (pbodyK l k).size ≤ k * 10000010
  | 0 => by show (0 : Nat) ≤ _; omega
  | k + 1 => by
    have ih := pbodyK_size h k
    unfold pbodyK
    rw [app_size]
    split
    · rename_i a ha
      have := ptext_size (h a (List.mem_of_getElem? ha))
      rw [app_size]
      have e1 : tIf.size = 4 := rfl
      have e2 : tComma.size = 2 := rfl
      split
      · rw [e1]; omega
      · rw [e2]; omega
    · have e0 : (⟨#[]⟩ : ByteArray).size = 0 := rfl
      have ih2 : (pbodyK l k).size ≤ k * 10000010 := ih
      generalize (⟨#[]⟩ : ByteArray).size = z at *
      omega
theorem PgM.add {m : Mm} {b : Nat} {o : ByteArray} (h : PgM m b o) {cs : List AV} (hl : ∀ i j, lows i j cs = true) : PgM ⟨m.hp ++ [⟨false, cs⟩], m.hw⟩ b o := by
  obtain ⟨u, c, hb, hc, hlow⟩ := h.at_
  have hlt := h.lt
  have hc' : BufIs 5 ⟨m.hp ++ [⟨false, cs⟩], m.hw⟩ c o := by
    rcases hc with hc | ⟨j, h1, h2, h3⟩
    · exact Or.inl hc
    · refine Or.inr ⟨j, h1, ?_, h3⟩
      show (m.hp ++ [_])[j]? = _
      rw [List.getElem?_append_left (List.getElem?_eq_some_iff.1 h2).1]
      exact h2
  refine ⟨⟨u, c, ?_, hc', bufIs_low hc'⟩, ?_⟩
  · show (m.hp ++ [_])[b]? = _
    rw [List.getElem?_append_left hlt]
    exact hb
  · exact lowB_app (hl _ _) (lowB_up (by simp) (Nat.le_refl _) h.wf)
theorem idxA' {ex : Bool} {l : List Atm} {k : Nat} (h : k < l.length) : aIndexAddr Tryd.prog 43 (.c (slC atC ex l)) (.c (.v (.int .i64 (k : Int)))) = some (.cptr (atC l[k] ++ (l.drop (k + 1)).flatMap atC)) :=
  idx_R atC 11 (fun _ => rfl) Tryd.underlying43 sz42 (by decide) h
theorem lowQ {b i j : Nat} {ex : Bool} {l : List Atm} {s : ByteArray} {n k : Int} (h : b < i) : lowF i j [(0, .ptr b 0), (4, sA s), (7, .c (slC atC ex l)), (8, iA n), (9, iA k)] = true := by
  simp only [lowF, low, Bool.and_true, Nat.blt_eq]
  exact h
theorem body_page {m : Mm} {b : Nat} {o : ByteArray} (h : PgM m b o) (l : List Atm) (ex : Bool) (hl : l.length ≤ 100) (hs : ∀ a ∈ l, AtSz a) (hlen : o.size ≤ 100000000000) :
    ∃ m', GivesW Tryd.prog 49 [.ptr b 0, .c (slC atC ex l)] m (.tup []) m' ∧ PgM m' b (o ++ pbody l) ∧ KpP m m' := by
  have hsz : ∀ k, k ≤ l.length → (o ++ pbodyK l k).size ≤ 110000000000 := fun k hk => by
    have := pbodyK_size hs k
    have h2 : k * 10000010 ≤ 100 * 10000010 := Nat.mul_le_mul_right _ (by omega)
    rw [app_size]
    omega
  obtain ⟨ms, c0, c1, c2⟩ := chain (fun k => o ++ pbodyK l k) (fun k m' m2 => ∀ hk : k < l.length, GivesW Tryd.prog 47 [.ptr b 0, slS true [if k = 0 then tIf else tComma, ptext l[k]]] ⟨m'.hp ++ [(⟨false, (atC l[k]).map AV.c⟩ : Blk)], m'.hw⟩ (.tup []) m2) (m := m) (by
      show PgM m b (o ++ ⟨#[]⟩)
      rw [app_e]
      exact h) l.length (fun k hk m' hp _ => by
      have hz := ptext_size (hs l[k] (List.getElem_mem hk))
      have hz2 := hsz k (by omega)
      obtain ⟨m2, g1, g2, g3⟩ := put_page (hp.add (cs := (atC l[k]).map .c) (fun i j => rfl)) [if k = 0 then tIf else tComma, ptext l[k]] true (two_le _ _) (by
        rw [cat2, app_size (if k = 0 then tIf else tComma)]
        have : (if k = 0 then tIf else tComma).size ≤ 4 := by split <;> decide
        omega)
      refine ⟨m2, fun _ => g1, ?_, ⟨g3.hw, Nat.le_trans (by simp) g3.len, fun i blk hp hi => g3.old i blk hp (by show (m'.hp ++ [_])[i]? = _; rw [List.getElem?_append_left (List.getElem?_eq_some_iff.1 hi).1]; exact hi)⟩⟩
      rw [pbodyK_next hk, ← ByteArray.append_assoc]
      rw [cat2] at g2
      exact g2)
  refine ⟨ms l.length, ?_, (c1 l.length (Nat.le_refl _)).1, (c1 l.length (Nat.le_refl _)).2⟩
  refine givesW_of' Tryd.func49 rfl (by kernel_rfl) Tryd.ntmps49 rfl rfl fun Q hQ => ?_
  repeat (first
      | refine tr_seq_k fun _ _ => ?_
      | (refine tr_region ?_; simp only [go_sem, List.getElem?_toArray, str_beq, reduceCtorEq, Nat.reduceEqDiff, Nat.reduceLT, Nat.reduceLeDiff, Nat.reduceAdd, Nat.reduceMul, Nat.reduceSub, Nat.reduceBEq, ↓reduceIte, bne_self_eq_false, Bool.and_false, Bool.false_and, Bool.true_or, Bool.false_or])
      | refine k_of (by assumption) ?_
      | refine tr_block ?_
      | refine tr_scope ?_
      | (refine tr_skip ?_; try simp only [ex_seq, ex_block])
      | (refine tr_label ?_; try simp only [ex_seq, ex_block])
      | (refine tr_exit ?_; try simp only [ex_seq_exit, ex_block_exit, Nat.reduceEqDiff, if_true, if_false, ex_seq, ex_block, reduceCtorEq, ↓reduceIte])
      | (refine tr_ret ?_; try simp only [ex_seq_ret, ex_block_ret]))
  refine tr_loop_k (σ := Nat) (fun k => [(0, .ptr b 0), (4, sA (if k = 0 then tIf else tComma)), (7, .c (slC atC ex l)), (8, iA l.length), (9, iA k)]) (fun k => ms k) (fun k => k ≤ l.length) (fun k => l.length - k) 0 (Nat.zero_le _) ⟨rfl, rfl, rfl, rfl, rfl, trivial⟩ c0.symm ?_
  rintro k hk K hK
  by_cases hkl : k < l.length
  · have d1 : decide ((k : Int) < (l.length : Nat)) = true := decide_eq_true (by omega)
    have ix := idxA' (ex := ex) hkl
    have ws := wrap_succ (show k ≤ 1000000000 by omega)
    have cP := c2 k hkl hkl
    have hp := c1 (k + 1) hkl
    have cT := text_does l[k] (hs l[k] (List.getElem_mem hkl))
    have hA : ∀ x : Blk, ((ms k).hp ++ [x])[(ms k).hp.length]? = some x := fun x => by simp
    have hS : ∀ x y : Blk, ((ms k).hp ++ [x]).set (ms k).hp.length y = (ms k).hp ++ [y] := fun x y => by simp
    have hb := (c1 k hk).1.lt
    generalize l[k] = a at *
    repeat (first
        | refine tr_seq_k fun _ _ => ?_
        | (refine tr_region ?_; simp only [go_sem, List.getElem?_toArray, str_beq, reduceCtorEq, Nat.reduceEqDiff, Nat.reduceLT, Nat.reduceLeDiff, Nat.reduceAdd, Nat.reduceMul, Nat.reduceSub, Nat.reduceBEq, ↓reduceIte, bne_self_eq_false, Bool.and_false, Bool.false_and, Bool.true_or, Bool.false_or, d1])
        | refine k_of (by assumption) ?_
        | refine tr_block ?_
        | refine tr_scope ?_
        | (refine tr_skip ?_; try simp only [ex_seq, ex_block])
        | (refine tr_label ?_; try simp only [ex_seq, ex_block])
        | (refine tr_exit ?_; try simp only [ex_seq_exit, ex_block_exit, Nat.reduceEqDiff, if_true, if_false, ex_seq, ex_block, reduceCtorEq, ↓reduceIte])
        | (refine tr_ret ?_; try simp only [ex_seq_ret, ex_block_ret]))
    refine tr_cond rfl (fun ht => ?_) (fun hf => ?_)
    · repeat (first
          | refine tr_seq_k fun _ _ => ?_
          | (refine tr_region ?_; simp only [go_sem, List.getElem?_toArray, str_beq, reduceCtorEq, Nat.reduceEqDiff, Nat.reduceLT, Nat.reduceLeDiff, Nat.reduceAdd, Nat.reduceMul, Nat.reduceSub, Nat.reduceBEq, ↓reduceIte, bne_self_eq_false, Bool.and_false, Bool.false_and, Bool.true_or, Bool.false_or, ix, ws, hA, hS])
          | (refine call_of (cT) ?_ ?_
             · first | rfl | simp only [go_sem, List.getElem?_toArray, str_beq, reduceCtorEq, Nat.reduceEqDiff, Nat.reduceLT, Nat.reduceLeDiff, Nat.reduceAdd, Nat.reduceMul, Nat.reduceSub, Nat.reduceBEq, ↓reduceIte, bne_self_eq_false, Bool.and_false, Bool.false_and, Bool.true_or, Bool.false_or, ix, ws, hA, hS, shut_col]
             simp only [go_sem, List.getElem?_toArray, str_beq, reduceCtorEq, Nat.reduceEqDiff, Nat.reduceLT, Nat.reduceLeDiff, Nat.reduceAdd, Nat.reduceMul, Nat.reduceSub, Nat.reduceBEq, ↓reduceIte, bne_self_eq_false, Bool.and_false, Bool.false_and, Bool.true_or, Bool.false_or, ix, ws, hA, hS])
          | (refine call_givesW (cP) ?_; (try dsimp only); (try simp only [go_sem, List.getElem?_toArray, str_beq, reduceCtorEq, Nat.reduceEqDiff, Nat.reduceLT, Nat.reduceLeDiff, Nat.reduceAdd, Nat.reduceMul, Nat.reduceSub, Nat.reduceBEq, ↓reduceIte, bne_self_eq_false, Bool.and_false, Bool.false_and, Bool.true_or, Bool.false_or, ix, ws, hA, hS]))
          | refine k_of (by assumption) ?_
          | refine tr_block ?_
          | refine tr_scope ?_
          | (refine tr_skip ?_; try simp only [ex_seq, ex_block])
          | (refine tr_label ?_; try simp only [ex_seq, ex_block])
          | (refine tr_exit ?_; try simp only [ex_seq_exit, ex_block_exit, Nat.reduceEqDiff, if_true, if_false, ex_seq, ex_block, reduceCtorEq, ↓reduceIte])
          | (refine tr_ret ?_; try simp only [ex_seq_ret, ex_block_ret]))
      exact hK (k + 1) _ _ hkl ⟨⟨rfl, rfl, rfl, rfl, rfl, trivial⟩, Keep.refl _, lowQ hp.1.lt, hp.1.wf, by rw [c0]; exact hp.2.len, by rw [c0, hp.2.hw]; exact Nat.le_refl _⟩ (by omega)
    · cases hf
  · have d1 : decide ((k : Int) < (l.length : Nat)) = false := decide_eq_false (by omega)
    obtain rfl : k = l.length := by omega
    repeat (first
        | refine tr_seq_k fun _ _ => ?_
        | (refine tr_region ?_; simp only [go_sem, List.getElem?_toArray, str_beq, reduceCtorEq, Nat.reduceEqDiff, Nat.reduceLT, Nat.reduceLeDiff, Nat.reduceAdd, Nat.reduceMul, Nat.reduceSub, Nat.reduceBEq, ↓reduceIte, bne_self_eq_false, Bool.and_false, Bool.false_and, Bool.true_or, Bool.false_or, d1])
        | refine k_of (by assumption) ?_
        | refine tr_block ?_
        | refine tr_scope ?_
        | (refine tr_skip ?_; try simp only [ex_seq, ex_block])
        | (refine tr_label ?_; try simp only [ex_seq, ex_block])
        | (refine tr_exit ?_; try simp only [ex_seq_exit, ex_block_exit, Nat.reduceEqDiff, if_true, if_false, ex_seq, ex_block, reduceCtorEq, ↓reduceIte])
        | (refine tr_ret ?_; try simp only [ex_seq_ret, ex_block_ret]))
    refine tr_cond rfl (fun ht => ?_) (fun hf => ?_)
    · cases ht
    · repeat (first
          | refine tr_seq_k fun _ _ => ?_
          | (refine tr_region ?_; simp only [go_sem, List.getElem?_toArray, str_beq, reduceCtorEq, Nat.reduceEqDiff, Nat.reduceLT, Nat.reduceLeDiff, Nat.reduceAdd, Nat.reduceMul, Nat.reduceSub, Nat.reduceBEq, ↓reduceIte, bne_self_eq_false, Bool.and_false, Bool.false_and, Bool.true_or, Bool.false_or])
          | refine k_of (by assumption) ?_
          | refine tr_block ?_
          | refine tr_scope ?_
          | (refine tr_skip ?_; try simp only [ex_seq, ex_block])
          | (refine tr_label ?_; try simp only [ex_seq, ex_block])
          | (refine tr_exit ?_; try simp only [ex_seq_exit, ex_block_exit, Nat.reduceEqDiff, if_true, if_false, ex_seq, ex_block, reduceCtorEq, ↓reduceIte])
          | (refine tr_ret ?_; try simp only [ex_seq_ret, ex_block_ret]))
      exact (hQ _ _ [] rfl rfl rfl).1
end Go.Proofs.YtaeehadibckcjaaDoor

/-
  Chapter 11: the texts of rules, grants, clears and goals, by the program.
-/
namespace Go.Proofs.YtaeehadibckcjaaDoor
open Go.RowKit Go.Vs Go.Vs.Ab
set_option maxRecDepth 100000
set_option maxHeartbeats 4000000
theorem cut_hi {s : ByteArray} {n : Nat} (h : n ≤ s.size) : pureVal Tryd.prog (Instr.sliceAt 9 (.string s) none (some (.int .i64 (n : Int))) none) = some (.string (s.extract 0 n)) := by
  have hb : pureVal Tryd.prog (Instr.sliceBounds false s.size s.size none (some (.int .i64 (n : Int))) none) = some (0, n, s.size) := by
    unfold Instr.sliceBounds Instr.sliceBound
    simp only [pv_bind, pv_pure, Option.bind_some, asIntOf]
    rw [if_pos ⟨by omega, by omega⟩]
    simp [pv_pure]
  unfold Instr.sliceAt
  rw [pv_bind, pv_under Tryd.underlying9]
  show pureVal Tryd.prog (Instr.slice 9 (.string s) none (some (.int .i64 (n : Int))) none) = _
  unfold Instr.slice
  rw [pv_bind, pv_under Tryd.underlying9]
  simp only [Option.bind_some, Option.isSome_none, Bool.false_eq_true, if_false, pv_bind, hb, pv_pure]
theorem cut_lo {s : ByteArray} {n : Nat} (h : n ≤ s.size) : pureVal Tryd.prog (Instr.sliceAt 9 (.string s) (some (.int .i64 (n : Int))) none none) = some (.string (s.extract n s.size)) := by
  have hb : pureVal Tryd.prog (Instr.sliceBounds false s.size s.size (some (.int .i64 (n : Int))) none none) = some (n, s.size, s.size) := by
    unfold Instr.sliceBounds Instr.sliceBound
    simp only [pv_bind, pv_pure, Option.bind_some, asIntOf]
    rw [if_pos ⟨by omega, by omega⟩]
    simp [pv_pure]
  unfold Instr.sliceAt
  rw [pv_bind, pv_under Tryd.underlying9]
  show pureVal Tryd.prog (Instr.slice 9 (.string s) (some (.int .i64 (n : Int))) none none) = _
  unfold Instr.slice
  rw [pv_bind, pv_under Tryd.underlying9]
  simp only [Option.bind_some, Option.isSome_none, Bool.false_eq_true, if_false, pv_bind, hb, pv_pure]
theorem ext_pre (p x : ByteArray) : (p ++ x).extract 0 p.size = p := by
  simp [ByteArray.extract_append]
theorem ext_suf (p x : ByteArray) : (p ++ x).extract p.size (p ++ x).size = x := by
  rw [app_size, ByteArray.extract_append]
  have h1 : p.extract p.size (p.size + x.size) = ⟨#[]⟩ := by
    apply size0
    simp
  rw [h1, none_app rfl]
  simp
theorem hasPre_does {s p x : ByteArray} (hs : s = p ++ x) : Does Tryd.prog 84 [sA s, sA p] (fun m => (bA true, m)) := by
  have hle : p.size ≤ s.size := by rw [hs, app_size]; omega
  have g1 : decide ((s.size : Int) ≥ (p.size : Nat)) = true := decide_eq_true (by omega)
  have c1 := cut_hi hle
  rw [show s.extract 0 p.size = p by rw [hs]; exact ext_pre p x] at c1
  clear hs
  refine does_of' Tryd.func84 rfl (by kernel_rfl) rfl Tryd.ntmps84 rfl rfl fun Q hQ => ?_
  repeat (first
      | refine tr_seq_k fun _ _ => ?_
      | (refine tr_region ?_; simp only [go_sem, List.getElem?_toArray, str_beq, reduceCtorEq, Nat.reduceEqDiff, Nat.reduceLT, Nat.reduceLeDiff, Nat.reduceAdd, Nat.reduceMul, Nat.reduceSub, Nat.reduceBEq, ↓reduceIte, bne_self_eq_false, Bool.and_false, Bool.false_and, Bool.true_or, Bool.false_or, g1, c1])
      | refine k_of (by assumption) ?_
      | refine tr_block ?_
      | refine tr_scope ?_
      | (refine tr_skip ?_; try simp only [ex_seq, ex_block])
      | (refine tr_label ?_; try simp only [ex_seq, ex_block])
      | (refine tr_exit ?_; try simp only [ex_seq_exit, ex_block_exit, Nat.reduceEqDiff, if_true, if_false, ex_seq, ex_block, reduceCtorEq, ↓reduceIte])
      | (refine tr_ret ?_; try simp only [ex_seq_ret, ex_block_ret]))
  refine (hQ _ _ [bA true] ?_ (fun m => ?_)).2 <;> simp only [go_sem, List.getElem?_toArray, str_beq, reduceCtorEq, Nat.reduceEqDiff, Nat.reduceLT, Nat.reduceLeDiff, Nat.reduceAdd, Nat.reduceMul, Nat.reduceSub, Nat.reduceBEq, ↓reduceIte, bne_self_eq_false, Bool.and_false, Bool.false_and, Bool.true_or, Bool.false_or, Tryd.f84,]
theorem trim_does {s p x : ByteArray} (hs : s = p ++ x) : Does Tryd.prog 50 [sA s, sA p] (fun m => (sA x, m)) := by
  have cH := hasPre_does hs
  have hle : p.size ≤ s.size := by rw [hs, app_size]; omega
  have c1 := cut_lo hle
  rw [show s.extract p.size s.size = x by rw [hs]; exact ext_suf p x] at c1
  clear hs
  have cT : Does Tryd.prog 71 [sA s, sA p] (fun m => (sA x, m)) := by
    refine does_of' Tryd.func71 rfl (by kernel_rfl) rfl Tryd.ntmps71 rfl rfl fun Q hQ => ?_
    repeat (first
        | refine tr_seq_k fun _ _ => ?_
        | (refine tr_region ?_; simp only [go_sem, List.getElem?_toArray, str_beq, reduceCtorEq, Nat.reduceEqDiff, Nat.reduceLT, Nat.reduceLeDiff, Nat.reduceAdd, Nat.reduceMul, Nat.reduceSub, Nat.reduceBEq, ↓reduceIte, bne_self_eq_false, Bool.and_false, Bool.false_and, Bool.true_or, Bool.false_or])
        | (refine call_of (cH) ?_ ?_
           · first | rfl | simp only [go_sem, List.getElem?_toArray, str_beq, reduceCtorEq, Nat.reduceEqDiff, Nat.reduceLT, Nat.reduceLeDiff, Nat.reduceAdd, Nat.reduceMul, Nat.reduceSub, Nat.reduceBEq, ↓reduceIte, bne_self_eq_false, Bool.and_false, Bool.false_and, Bool.true_or, Bool.false_or, shut_col]
           simp only [go_sem, List.getElem?_toArray, str_beq, reduceCtorEq, Nat.reduceEqDiff, Nat.reduceLT, Nat.reduceLeDiff, Nat.reduceAdd, Nat.reduceMul, Nat.reduceSub, Nat.reduceBEq, ↓reduceIte, bne_self_eq_false, Bool.and_false, Bool.false_and, Bool.true_or, Bool.false_or])
        | refine k_of (by assumption) ?_
        | refine tr_block ?_
        | refine tr_scope ?_
        | (refine tr_skip ?_; try simp only [ex_seq, ex_block])
        | (refine tr_label ?_; try simp only [ex_seq, ex_block])
        | (refine tr_exit ?_; try simp only [ex_seq_exit, ex_block_exit, Nat.reduceEqDiff, if_true, if_false, ex_seq, ex_block, reduceCtorEq, ↓reduceIte])
        | (refine tr_ret ?_; try simp only [ex_seq_ret, ex_block_ret]))
    refine tr_cond rfl (fun ht => ?_) (fun hf => ?_)
    · repeat (first
          | refine tr_seq_k fun _ _ => ?_
          | (refine tr_region ?_; simp only [go_sem, List.getElem?_toArray, str_beq, reduceCtorEq, Nat.reduceEqDiff, Nat.reduceLT, Nat.reduceLeDiff, Nat.reduceAdd, Nat.reduceMul, Nat.reduceSub, Nat.reduceBEq, ↓reduceIte, bne_self_eq_false, Bool.and_false, Bool.false_and, Bool.true_or, Bool.false_or, c1])
          | refine k_of (by assumption) ?_
          | refine tr_block ?_
          | refine tr_scope ?_
          | (refine tr_skip ?_; try simp only [ex_seq, ex_block])
          | (refine tr_label ?_; try simp only [ex_seq, ex_block])
          | (refine tr_exit ?_; try simp only [ex_seq_exit, ex_block_exit, Nat.reduceEqDiff, if_true, if_false, ex_seq, ex_block, reduceCtorEq, ↓reduceIte])
          | (refine tr_ret ?_; try simp only [ex_seq_ret, ex_block_ret]))
      refine (hQ _ _ [sA x] ?_ (fun m => ?_)).2 <;> simp only [go_sem, List.getElem?_toArray, str_beq, reduceCtorEq, Nat.reduceEqDiff, Nat.reduceLT, Nat.reduceLeDiff, Nat.reduceAdd, Nat.reduceMul, Nat.reduceSub, Nat.reduceBEq, ↓reduceIte, bne_self_eq_false, Bool.and_false, Bool.false_and, Bool.true_or, Bool.false_or, Tryd.f71,]
    · cases hf
  refine does_of' Tryd.func50 rfl (by kernel_rfl) rfl Tryd.ntmps50 rfl rfl fun Q hQ => ?_
  repeat (first
      | refine tr_seq_k fun _ _ => ?_
      | (refine tr_region ?_; simp only [go_sem, List.getElem?_toArray, str_beq, reduceCtorEq, Nat.reduceEqDiff, Nat.reduceLT, Nat.reduceLeDiff, Nat.reduceAdd, Nat.reduceMul, Nat.reduceSub, Nat.reduceBEq, ↓reduceIte, bne_self_eq_false, Bool.and_false, Bool.false_and, Bool.true_or, Bool.false_or])
      | (refine call_of (cT) ?_ ?_
         · first | rfl | simp only [go_sem, List.getElem?_toArray, str_beq, reduceCtorEq, Nat.reduceEqDiff, Nat.reduceLT, Nat.reduceLeDiff, Nat.reduceAdd, Nat.reduceMul, Nat.reduceSub, Nat.reduceBEq, ↓reduceIte, bne_self_eq_false, Bool.and_false, Bool.false_and, Bool.true_or, Bool.false_or, shut_col]
         simp only [go_sem, List.getElem?_toArray, str_beq, reduceCtorEq, Nat.reduceEqDiff, Nat.reduceLT, Nat.reduceLeDiff, Nat.reduceAdd, Nat.reduceMul, Nat.reduceSub, Nat.reduceBEq, ↓reduceIte, bne_self_eq_false, Bool.and_false, Bool.false_and, Bool.true_or, Bool.false_or])
      | refine k_of (by assumption) ?_
      | refine tr_block ?_
      | refine tr_scope ?_
      | (refine tr_skip ?_; try simp only [ex_seq, ex_block])
      | (refine tr_label ?_; try simp only [ex_seq, ex_block])
      | (refine tr_exit ?_; try simp only [ex_seq_exit, ex_block_exit, Nat.reduceEqDiff, if_true, if_false, ex_seq, ex_block, reduceCtorEq, ↓reduceIte])
      | (refine tr_ret ?_; try simp only [ex_seq_ret, ex_block_ret]))
  refine (hQ _ _ [sA x] ?_ (fun m => ?_)).2 <;> simp only [go_sem, List.getElem?_toArray, str_beq, reduceCtorEq, Nat.reduceEqDiff, Nat.reduceLT, Nat.reduceLeDiff, Nat.reduceAdd, Nat.reduceMul, Nat.reduceSub, Nat.reduceBEq, ↓reduceIte, bne_self_eq_false, Bool.and_false, Bool.false_and, Bool.true_or, Bool.false_or, Tryd.f50,]
/-! ### rules, grants, clears, goals -/
def pRule (r : Rul) : ByteArray := ptext r.head ++ pbody r.body
theorem fresh_page (bs : List Blk) (hw : lowB (bs.length + 1) 0 bs = true) : PgM ⟨bs ++ [⟨false, [.bld 81 false (.c (.v (.slice none 0 0)))]⟩], []⟩ bs.length ⟨#[]⟩ := by
  refine ⟨⟨false, .c (.v (.slice none 0 0)), by simp, Or.inl ⟨rfl, rfl⟩, rfl⟩, lowB_app rfl ?_⟩
  rw [List.length_append]
  exact hw
theorem rule_does (r : Rul) (h1 : AtSz r.head) (h2 : ∀ a ∈ r.body, AtSz a) (h3 : r.body.length ≤ 100) : Does Tryd.prog 14 [ruA r] (fun m => (sA (pRule r), m)) := by
  have hz := ptext_size h1
  obtain ⟨m1, c1, p1, k1⟩ := put_page (fresh_page [⟨false, (ruC r).map AV.c⟩] rfl) [ptext r.head] true (Nat.le_of_ble_eq_true rfl) (by rw [cat1]; show 0 + _ ≤ _; omega)
  rw [cat1, none_app rfl] at p1
  have hb0 := k1.old 0 ⟨false, (ruC r).map AV.c⟩ rfl rfl
  obtain ⟨m2, c2, p2, k2⟩ := body_page p1 r.body r.ex h3 h2 (by omega)
  obtain ⟨m3, c3⟩ := str_page p2
  have cT := text_does r.head h1
  have hb0 : m1.hp[0]? = some ⟨false, ([.c (.v (.string r.head.says)), .c (.v (.string r.head.pred)), .c (.v (.int .i64 r.head.n)), .c (.v (.bool r.head.a0.v)), .c (.v (.string r.head.a0.name)), .c (.v (.bool r.head.a1.v)), .c (.v (.string r.head.a1.name)), .c (.v (.bool r.head.a2.v)), .c (.v (.string r.head.a2.name)), .c (.v (.bool r.head.a3.v)), .c (.v (.string r.head.a3.name))] : List AV) ++ [.c (slC atC r.ex r.body)]⟩ := hb0
  simp only [List.cons_append, List.nil_append] at hb0
  refine does_of' Tryd.func14 rfl (by kernel_rfl) rfl Tryd.ntmps14 rfl rfl fun Q hQ => ?_
  repeat (first
      | refine tr_seq_k fun _ _ => ?_
      | (refine tr_region ?_; simp only [go_sem, List.getElem?_toArray, str_beq, reduceCtorEq, Nat.reduceEqDiff, Nat.reduceLT, Nat.reduceLeDiff, Nat.reduceAdd, Nat.reduceMul, Nat.reduceSub, Nat.reduceBEq, ↓reduceIte, bne_self_eq_false, Bool.and_false, Bool.false_and, Bool.true_or, Bool.false_or, hb0])
      | (refine call_of (cT) ?_ ?_
         · first | rfl | simp only [go_sem, List.getElem?_toArray, str_beq, reduceCtorEq, Nat.reduceEqDiff, Nat.reduceLT, Nat.reduceLeDiff, Nat.reduceAdd, Nat.reduceMul, Nat.reduceSub, Nat.reduceBEq, ↓reduceIte, bne_self_eq_false, Bool.and_false, Bool.false_and, Bool.true_or, Bool.false_or, hb0, shut_col]
         simp only [go_sem, List.getElem?_toArray, str_beq, reduceCtorEq, Nat.reduceEqDiff, Nat.reduceLT, Nat.reduceLeDiff, Nat.reduceAdd, Nat.reduceMul, Nat.reduceSub, Nat.reduceBEq, ↓reduceIte, bne_self_eq_false, Bool.and_false, Bool.false_and, Bool.true_or, Bool.false_or, hb0])
      | (refine call_givesW (c1) ?_; (try dsimp only); (try simp only [go_sem, List.getElem?_toArray, str_beq, reduceCtorEq, Nat.reduceEqDiff, Nat.reduceLT, Nat.reduceLeDiff, Nat.reduceAdd, Nat.reduceMul, Nat.reduceSub, Nat.reduceBEq, ↓reduceIte, bne_self_eq_false, Bool.and_false, Bool.false_and, Bool.true_or, Bool.false_or, hb0]))
      | (refine call_givesW (c2) ?_; (try dsimp only); (try simp only [go_sem, List.getElem?_toArray, str_beq, reduceCtorEq, Nat.reduceEqDiff, Nat.reduceLT, Nat.reduceLeDiff, Nat.reduceAdd, Nat.reduceMul, Nat.reduceSub, Nat.reduceBEq, ↓reduceIte, bne_self_eq_false, Bool.and_false, Bool.false_and, Bool.true_or, Bool.false_or, hb0]))
      | (refine call_givesW (c3) ?_; (try dsimp only); (try simp only [go_sem, List.getElem?_toArray, str_beq, reduceCtorEq, Nat.reduceEqDiff, Nat.reduceLT, Nat.reduceLeDiff, Nat.reduceAdd, Nat.reduceMul, Nat.reduceSub, Nat.reduceBEq, ↓reduceIte, bne_self_eq_false, Bool.and_false, Bool.false_and, Bool.true_or, Bool.false_or, hb0]))
      | refine k_of (by assumption) ?_
      | refine tr_block ?_
      | refine tr_scope ?_
      | (refine tr_skip ?_; try simp only [ex_seq, ex_block])
      | (refine tr_label ?_; try simp only [ex_seq, ex_block])
      | (refine tr_exit ?_; try simp only [ex_seq_exit, ex_block_exit, Nat.reduceEqDiff, if_true, if_false, ex_seq, ex_block, reduceCtorEq, ↓reduceIte])
      | (refine tr_ret ?_; try simp only [ex_seq_ret, ex_block_ret]))
  refine (hQ _ _ [sA (pRule r)] ?_ (fun m => ?_)).2 <;> simp only [go_sem, List.getElem?_toArray, str_beq, reduceCtorEq, Nat.reduceEqDiff, Nat.reduceLT, Nat.reduceLeDiff, Nat.reduceAdd, Nat.reduceMul, Nat.reduceSub, Nat.reduceBEq, ↓reduceIte, bne_self_eq_false, Bool.and_false, Bool.false_and, Bool.true_or, Bool.false_or, Tryd.f14, pRule]
theorem psaidK_says (a : Atm) (s : ByteArray) : ∀ k, psaidK { a with says := s } k = psaidK a k
  | 0 => rfl
  | k + 1 => by
    unfold psaidK
    rw [psaidK_says a s k]
    rfl
theorem psaid_says (a : Atm) (s : ByteArray) : psaid { a with says := s } = psaid a := by
  unfold psaid
  rw [psaidK_says]
  rfl
abbrev tCan : ByteArray := ⟨#[32, 99, 97, 110, 115, 97, 121, 32]⟩
def pGrant (g : Grt) : ByteArray := catB [g.head.says, tSays, g.tw, tCan, psaid g.head] ++ pbody g.body
theorem grant_does (g : Grt) (h0 : g.tw.size ≤ 1000000) (h1 : AtSz g.head) (h2 : ∀ a ∈ g.body, AtSz a) (h3 : g.body.length ≤ 100) : Does Tryd.prog 15 [grA g] (fun m => (sA (pGrant g), m)) := by
  obtain ⟨bare, hbare⟩ : ∃ bare : Atm, bare = { g.head with says := ⟨#[]⟩ } := ⟨_, rfl⟩
  have hbS : AtSz bare := by rw [hbare]; exact ⟨Nat.zero_le _, h1.2⟩
  have hz := ptext_size hbS
  have htx : ptext bare = tSays ++ psaid g.head := by
    rw [hbare]
    show ((⟨#[]⟩ : ByteArray) ++ tSays) ++ psaid _ = _
    rw [none_app (o := ⟨#[]⟩) (s := tSays) rfl, psaid_says]
  have cT := text_does bare hbS
  have cP := trim_does htx
  have hps : (psaid g.head).size ≤ 10000000 := by
    rw [htx, app_size] at hz
    omega
  obtain ⟨q1, q2, q3⟩ := h1
  obtain ⟨m0, hm0⟩ : ∃ m0 : Mm, m0 = ⟨[⟨false, (grC g).map AV.c⟩] ++ [⟨false, [.bld 81 false (.c (.v (.slice none 0 0)))]⟩], []⟩ := ⟨_, rfl⟩
  have hp0 : PgM m0 1 ⟨#[]⟩ := by rw [hm0]; exact fresh_page [⟨false, (grC g).map AV.c⟩] rfl
  have hp1 := hp0.add (cs := (atC bare).map .c) (fun i j => rfl)
  have hsz : (catB [g.head.says, tSays, g.tw, tCan, psaid g.head]).size ≤ 20000000 := by
    simp only [catB, app_size]
    have e1 : tSays.size = 6 := rfl
    have e2 : tCan.size = 8 := rfl
    have e0 : (⟨#[]⟩ : ByteArray).size = 0 := rfl
    rw [e1, e2]
    generalize (⟨#[]⟩ : ByteArray).size = z at *
    omega
  obtain ⟨m1, c1, p1, k1⟩ := put_page hp1 [g.head.says, tSays, g.tw, tCan, psaid g.head] true (Nat.le_of_ble_eq_true rfl) (by
    have e0 : (⟨#[]⟩ : ByteArray).size = 0 := rfl
    rw [e0]
    omega)
  rw [none_app rfl] at p1
  have hb0 := k1.old 0 ⟨false, (grC g).map AV.c⟩ rfl (by rw [hm0]; rfl)
  obtain ⟨m2, c2, p2, k2⟩ := body_page p1 g.body g.ex h3 h2 (by omega)
  obtain ⟨m3, c3⟩ := str_page p2
  have hb0 : m1.hp[0]? = some ⟨false, .c (.v (.string g.tw)) :: (([.c (.v (.string g.head.says)), .c (.v (.string g.head.pred)), .c (.v (.int .i64 g.head.n)), .c (.v (.bool g.head.a0.v)), .c (.v (.string g.head.a0.name)), .c (.v (.bool g.head.a1.v)), .c (.v (.string g.head.a1.name)), .c (.v (.bool g.head.a2.v)), .c (.v (.string g.head.a2.name)), .c (.v (.bool g.head.a3.v)), .c (.v (.string g.head.a3.name))] : List AV) ++ [.c (slC atC g.ex g.body)])⟩ := hb0
  simp only [List.cons_append, List.nil_append] at hb0
  rw [hm0, hbare] at c1
  have c1 : GivesW Tryd.prog 47 [.ptr 1 0, .c (.sl true 5 [.v (.string g.head.says), .v (.string tSays), .v (.string g.tw), .v (.string tCan), .v (.string (psaid g.head))])] ⟨[⟨false, (grC g).map AV.c⟩, ⟨false, [.bld 81 false (.c (.v (.slice none 0 0)))]⟩, ⟨false, (atC { g.head with says := ⟨#[]⟩ }).map AV.c⟩], []⟩ (.tup []) m1 := c1
  rw [hbare] at cT cP
  clear hm0 hbare
  refine does_of' Tryd.func15 rfl (by kernel_rfl) rfl Tryd.ntmps15 rfl rfl fun Q hQ => ?_
  repeat (first
      | refine tr_seq_k fun _ _ => ?_
      | (refine tr_region ?_; simp only [go_sem, List.getElem?_toArray, str_beq, reduceCtorEq, Nat.reduceEqDiff, Nat.reduceLT, Nat.reduceLeDiff, Nat.reduceAdd, Nat.reduceMul, Nat.reduceSub, Nat.reduceBEq, ↓reduceIte, bne_self_eq_false, Bool.and_false, Bool.false_and, Bool.true_or, Bool.false_or, hb0])
      | (refine tr_draw (id := 4) follows 9 [6, 7, 8, 9] [0, 1, 2, 3, 4, 5, 6, 7, 8, 9] (by kernel_rfl) ?_; simp only [go_sem, List.getElem?_toArray, str_beq, reduceCtorEq, Nat.reduceEqDiff, Nat.reduceLT, Nat.reduceLeDiff, Nat.reduceAdd, Nat.reduceMul, Nat.reduceSub, Nat.reduceBEq, ↓reduceIte, bne_self_eq_false, Bool.and_false, Bool.false_and, Bool.true_or, Bool.false_or, hb0])
      | (refine call_of (cT) ?_ ?_
         · first | rfl | simp only [go_sem, List.getElem?_toArray, str_beq, reduceCtorEq, Nat.reduceEqDiff, Nat.reduceLT, Nat.reduceLeDiff, Nat.reduceAdd, Nat.reduceMul, Nat.reduceSub, Nat.reduceBEq, ↓reduceIte, bne_self_eq_false, Bool.and_false, Bool.false_and, Bool.true_or, Bool.false_or, hb0, shut_col]
         simp only [go_sem, List.getElem?_toArray, str_beq, reduceCtorEq, Nat.reduceEqDiff, Nat.reduceLT, Nat.reduceLeDiff, Nat.reduceAdd, Nat.reduceMul, Nat.reduceSub, Nat.reduceBEq, ↓reduceIte, bne_self_eq_false, Bool.and_false, Bool.false_and, Bool.true_or, Bool.false_or, hb0])
      | (refine call_of (cP) ?_ ?_
         · first | rfl | simp only [go_sem, List.getElem?_toArray, str_beq, reduceCtorEq, Nat.reduceEqDiff, Nat.reduceLT, Nat.reduceLeDiff, Nat.reduceAdd, Nat.reduceMul, Nat.reduceSub, Nat.reduceBEq, ↓reduceIte, bne_self_eq_false, Bool.and_false, Bool.false_and, Bool.true_or, Bool.false_or, hb0, shut_col]
         simp only [go_sem, List.getElem?_toArray, str_beq, reduceCtorEq, Nat.reduceEqDiff, Nat.reduceLT, Nat.reduceLeDiff, Nat.reduceAdd, Nat.reduceMul, Nat.reduceSub, Nat.reduceBEq, ↓reduceIte, bne_self_eq_false, Bool.and_false, Bool.false_and, Bool.true_or, Bool.false_or, hb0])
      | (refine call_givesW (c1) ?_; (try dsimp only); (try simp only [go_sem, List.getElem?_toArray, str_beq, reduceCtorEq, Nat.reduceEqDiff, Nat.reduceLT, Nat.reduceLeDiff, Nat.reduceAdd, Nat.reduceMul, Nat.reduceSub, Nat.reduceBEq, ↓reduceIte, bne_self_eq_false, Bool.and_false, Bool.false_and, Bool.true_or, Bool.false_or, hb0]))
      | (refine call_givesW (c2) ?_; (try dsimp only); (try simp only [go_sem, List.getElem?_toArray, str_beq, reduceCtorEq, Nat.reduceEqDiff, Nat.reduceLT, Nat.reduceLeDiff, Nat.reduceAdd, Nat.reduceMul, Nat.reduceSub, Nat.reduceBEq, ↓reduceIte, bne_self_eq_false, Bool.and_false, Bool.false_and, Bool.true_or, Bool.false_or, hb0]))
      | (refine call_givesW (c3) ?_; (try dsimp only); (try simp only [go_sem, List.getElem?_toArray, str_beq, reduceCtorEq, Nat.reduceEqDiff, Nat.reduceLT, Nat.reduceLeDiff, Nat.reduceAdd, Nat.reduceMul, Nat.reduceSub, Nat.reduceBEq, ↓reduceIte, bne_self_eq_false, Bool.and_false, Bool.false_and, Bool.true_or, Bool.false_or, hb0]))
      | refine k_of (by assumption) ?_
      | refine tr_block ?_
      | refine tr_scope ?_
      | (refine tr_skip ?_; try simp only [ex_seq, ex_block])
      | (refine tr_label ?_; try simp only [ex_seq, ex_block])
      | (refine tr_exit ?_; try simp only [ex_seq_exit, ex_block_exit, Nat.reduceEqDiff, if_true, if_false, ex_seq, ex_block, reduceCtorEq, ↓reduceIte])
      | (refine tr_ret ?_; try simp only [ex_seq_ret, ex_block_ret]))
  refine (hQ _ _ [sA (pGrant g)] ?_ (fun m => ?_)).2 <;> simp only [go_sem, List.getElem?_toArray, str_beq, reduceCtorEq, Nat.reduceEqDiff, Nat.reduceLT, Nat.reduceLeDiff, Nat.reduceAdd, Nat.reduceMul, Nat.reduceSub, Nat.reduceBEq, ↓reduceIte, bne_self_eq_false, Bool.and_false, Bool.false_and, Bool.true_or, Bool.false_or, Tryd.f15, pGrant]
abbrev tClr : ByteArray := ⟨#[99, 108, 101, 97, 114, 32]⟩
abbrev tCol : ByteArray := ⟨#[58]⟩
abbrev tSp : ByteArray := ⟨#[32]⟩
def pClear (c : Clr) : ByteArray := ((tClr ++ c.who) ++ tCol) ++ (if c.reads.length = 0 then ⟨#[]⟩ else tSp ++ joinB c.reads tComma)
theorem clear_does (c : Clr) (h1 : c.who.size ≤ 1000000) (h2 : c.reads.length ≤ 1000) (h3 : (joinB c.reads tComma).size ≤ 1000000) : Does Tryd.prog 19 [clA c] (fun m => (sA (pClear c), m)) := by
  have cJ := join_does c.reads tComma c.ex (by omega) (by omega)
  have z1 : tClr.size = 6 := rfl
  have z2 : tCol.size = 1 := rfl
  have z3 : tSp.size = 1 := rfl
  have a1 := sadd (a := tClr) (b := c.who) (n := 10000000) (by omega) (by decide)
  have a2 := sadd (a := tClr ++ c.who) (b := tCol) (n := 10000000) (by rw [app_size]; omega) (by decide)
  have a3 := sadd (a := tSp) (b := joinB c.reads tComma) (n := 10000000) (by omega) (by decide)
  have a4 := sadd (a := (tClr ++ c.who) ++ tCol) (b := tSp ++ joinB c.reads tComma) (n := 10000000) (by rw [app_size, app_size, app_size]; omega) (by decide)
  unfold pClear
  by_cases h0 : c.reads.length = 0
  · rw [if_pos h0, app_e]
    have d1 : decide (((c.reads.length : Nat) : Int) > 0) = false := decide_eq_false (by omega)
    refine does_of' Tryd.func19 rfl (by kernel_rfl) rfl Tryd.ntmps19 rfl rfl fun Q hQ => ?_
    repeat (first
        | refine tr_seq_k fun _ _ => ?_
        | (refine tr_region ?_; simp only [go_sem, List.getElem?_toArray, str_beq, reduceCtorEq, Nat.reduceEqDiff, Nat.reduceLT, Nat.reduceLeDiff, Nat.reduceAdd, Nat.reduceMul, Nat.reduceSub, Nat.reduceBEq, ↓reduceIte, bne_self_eq_false, Bool.and_false, Bool.false_and, Bool.true_or, Bool.false_or, a1, a2, d1])
        | refine k_of (by assumption) ?_
        | refine tr_block ?_
        | refine tr_scope ?_
        | (refine tr_skip ?_; try simp only [ex_seq, ex_block])
        | (refine tr_label ?_; try simp only [ex_seq, ex_block])
        | (refine tr_exit ?_; try simp only [ex_seq_exit, ex_block_exit, Nat.reduceEqDiff, if_true, if_false, ex_seq, ex_block, reduceCtorEq, ↓reduceIte])
        | (refine tr_ret ?_; try simp only [ex_seq_ret, ex_block_ret]))
    refine tr_cond rfl (fun ht => ?_) (fun hf => ?_)
    · cases ht
    · repeat (first
          | refine tr_seq_k fun _ _ => ?_
          | (refine tr_region ?_; simp only [go_sem, List.getElem?_toArray, str_beq, reduceCtorEq, Nat.reduceEqDiff, Nat.reduceLT, Nat.reduceLeDiff, Nat.reduceAdd, Nat.reduceMul, Nat.reduceSub, Nat.reduceBEq, ↓reduceIte, bne_self_eq_false, Bool.and_false, Bool.false_and, Bool.true_or, Bool.false_or])
          | refine k_of (by assumption) ?_
          | refine tr_block ?_
          | refine tr_scope ?_
          | (refine tr_skip ?_; try simp only [ex_seq, ex_block])
          | (refine tr_label ?_; try simp only [ex_seq, ex_block])
          | (refine tr_exit ?_; try simp only [ex_seq_exit, ex_block_exit, Nat.reduceEqDiff, if_true, if_false, ex_seq, ex_block, reduceCtorEq, ↓reduceIte])
          | (refine tr_ret ?_; try simp only [ex_seq_ret, ex_block_ret]))
      refine (hQ _ _ [sA ((tClr ++ c.who) ++ tCol)] ?_ (fun m => ?_)).2 <;> simp only [go_sem, List.getElem?_toArray, str_beq, reduceCtorEq, Nat.reduceEqDiff, Nat.reduceLT, Nat.reduceLeDiff, Nat.reduceAdd, Nat.reduceMul, Nat.reduceSub, Nat.reduceBEq, ↓reduceIte, bne_self_eq_false, Bool.and_false, Bool.false_and, Bool.true_or, Bool.false_or, Tryd.f19,]
  · rw [if_neg h0]
    have d1 : decide (((c.reads.length : Nat) : Int) > 0) = true := decide_eq_true (by omega)
    refine does_of' Tryd.func19 rfl (by kernel_rfl) rfl Tryd.ntmps19 rfl rfl fun Q hQ => ?_
    repeat (first
        | refine tr_seq_k fun _ _ => ?_
        | (refine tr_region ?_; simp only [go_sem, List.getElem?_toArray, str_beq, reduceCtorEq, Nat.reduceEqDiff, Nat.reduceLT, Nat.reduceLeDiff, Nat.reduceAdd, Nat.reduceMul, Nat.reduceSub, Nat.reduceBEq, ↓reduceIte, bne_self_eq_false, Bool.and_false, Bool.false_and, Bool.true_or, Bool.false_or, a1, a2, d1])
        | refine k_of (by assumption) ?_
        | refine tr_block ?_
        | refine tr_scope ?_
        | (refine tr_skip ?_; try simp only [ex_seq, ex_block])
        | (refine tr_label ?_; try simp only [ex_seq, ex_block])
        | (refine tr_exit ?_; try simp only [ex_seq_exit, ex_block_exit, Nat.reduceEqDiff, if_true, if_false, ex_seq, ex_block, reduceCtorEq, ↓reduceIte])
        | (refine tr_ret ?_; try simp only [ex_seq_ret, ex_block_ret]))
    refine tr_cond rfl (fun ht => ?_) (fun hf => ?_)
    · repeat (first
          | refine tr_seq_k fun _ _ => ?_
          | (refine tr_region ?_; simp only [go_sem, List.getElem?_toArray, str_beq, reduceCtorEq, Nat.reduceEqDiff, Nat.reduceLT, Nat.reduceLeDiff, Nat.reduceAdd, Nat.reduceMul, Nat.reduceSub, Nat.reduceBEq, ↓reduceIte, bne_self_eq_false, Bool.and_false, Bool.false_and, Bool.true_or, Bool.false_or, a3, a4])
          | (refine call_of (cJ) ?_ ?_
             · first | rfl | simp only [go_sem, List.getElem?_toArray, str_beq, reduceCtorEq, Nat.reduceEqDiff, Nat.reduceLT, Nat.reduceLeDiff, Nat.reduceAdd, Nat.reduceMul, Nat.reduceSub, Nat.reduceBEq, ↓reduceIte, bne_self_eq_false, Bool.and_false, Bool.false_and, Bool.true_or, Bool.false_or, a3, a4, shut_col]
             simp only [go_sem, List.getElem?_toArray, str_beq, reduceCtorEq, Nat.reduceEqDiff, Nat.reduceLT, Nat.reduceLeDiff, Nat.reduceAdd, Nat.reduceMul, Nat.reduceSub, Nat.reduceBEq, ↓reduceIte, bne_self_eq_false, Bool.and_false, Bool.false_and, Bool.true_or, Bool.false_or, a3, a4])
          | refine k_of (by assumption) ?_
          | refine tr_block ?_
          | refine tr_scope ?_
          | (refine tr_skip ?_; try simp only [ex_seq, ex_block])
          | (refine tr_label ?_; try simp only [ex_seq, ex_block])
          | (refine tr_exit ?_; try simp only [ex_seq_exit, ex_block_exit, Nat.reduceEqDiff, if_true, if_false, ex_seq, ex_block, reduceCtorEq, ↓reduceIte])
          | (refine tr_ret ?_; try simp only [ex_seq_ret, ex_block_ret]))
      refine (hQ _ _ [sA (((tClr ++ c.who) ++ tCol) ++ (tSp ++ joinB c.reads tComma))] ?_ (fun m => ?_)).2 <;> simp only [go_sem, List.getElem?_toArray, str_beq, reduceCtorEq, Nat.reduceEqDiff, Nat.reduceLT, Nat.reduceLeDiff, Nat.reduceAdd, Nat.reduceMul, Nat.reduceSub, Nat.reduceBEq, ↓reduceIte, bne_self_eq_false, Bool.and_false, Bool.false_and, Bool.true_or, Bool.false_or, Tryd.f19,]
    · cases hf
abbrev tQ : ByteArray := ⟨#[63]⟩
theorem goal_does (a : Atm) (h : AtSz a) : Does Tryd.prog 17 [atA a] (fun m => (sA (ptext a ++ tQ), m)) := by
  have hz := ptext_size h
  have cT := text_does a h
  have z1 : tQ.size = 1 := rfl
  have a1 := sadd (a := ptext a) (b := tQ) (n := 100000000) (by omega) (by decide)
  refine does_of' Tryd.func17 rfl (by kernel_rfl) rfl Tryd.ntmps17 rfl rfl fun Q hQ => ?_
  repeat (first
      | refine tr_seq_k fun _ _ => ?_
      | (refine tr_region ?_; simp only [go_sem, List.getElem?_toArray, str_beq, reduceCtorEq, Nat.reduceEqDiff, Nat.reduceLT, Nat.reduceLeDiff, Nat.reduceAdd, Nat.reduceMul, Nat.reduceSub, Nat.reduceBEq, ↓reduceIte, bne_self_eq_false, Bool.and_false, Bool.false_and, Bool.true_or, Bool.false_or, a1])
      | (refine call_of (cT) ?_ ?_
         · first | rfl | simp only [go_sem, List.getElem?_toArray, str_beq, reduceCtorEq, Nat.reduceEqDiff, Nat.reduceLT, Nat.reduceLeDiff, Nat.reduceAdd, Nat.reduceMul, Nat.reduceSub, Nat.reduceBEq, ↓reduceIte, bne_self_eq_false, Bool.and_false, Bool.false_and, Bool.true_or, Bool.false_or, a1, shut_col]
         simp only [go_sem, List.getElem?_toArray, str_beq, reduceCtorEq, Nat.reduceEqDiff, Nat.reduceLT, Nat.reduceLeDiff, Nat.reduceAdd, Nat.reduceMul, Nat.reduceSub, Nat.reduceBEq, ↓reduceIte, bne_self_eq_false, Bool.and_false, Bool.false_and, Bool.true_or, Bool.false_or, a1])
      | refine k_of (by assumption) ?_
      | refine tr_block ?_
      | refine tr_scope ?_
      | (refine tr_skip ?_; try simp only [ex_seq, ex_block])
      | (refine tr_label ?_; try simp only [ex_seq, ex_block])
      | (refine tr_exit ?_; try simp only [ex_seq_exit, ex_block_exit, Nat.reduceEqDiff, if_true, if_false, ex_seq, ex_block, reduceCtorEq, ↓reduceIte])
      | (refine tr_ret ?_; try simp only [ex_seq_ret, ex_block_ret]))
  refine (hQ _ _ [sA (ptext a ++ tQ)] ?_ (fun m => ?_)).2 <;> simp only [go_sem, List.getElem?_toArray, str_beq, reduceCtorEq, Nat.reduceEqDiff, Nat.reduceLT, Nat.reduceLeDiff, Nat.reduceAdd, Nat.reduceMul, Nat.reduceSub, Nat.reduceBEq, ↓reduceIte, bne_self_eq_false, Bool.and_false, Bool.false_and, Bool.true_or, Bool.false_or, Tryd.f17,]
/-! ### numbers -/
def itoaB (n : Int) : ByteArray := ⟨(Lib.itoa n).toArray⟩
theorem tab_var {w : World} (hg : Gl w) : Lib.TabIs Tryd.prog w "internal/strconv.uint64pow10" .u64 Lib.pow10Tab := by
  obtain ⟨t, z, h⟩ := hg _ (List.mem_cons_self ..)
  have hn : Tryd.prog.globalNamed "internal/strconv.uint64pow10" = some 0 := by kernel_rfl
  show w.var? Tryd.prog _ = _
  unfold World.var?
  rw [hn]
  show (match w.heap[0]? with | some (.cells cs _ _) => some cs | _ => none) = _
  rw [h]
  kernel_rfl
theorem itoaI_does (n : Int) (h0 : -9223372036854775808 ≤ n) (h1 : n ≤ 9223372036854775807) : Does Tryd.prog 37 [iA n] (fun m => (sA (itoaB n), m)) :=
  does_of_callsG (v := .string (itoaB n)) (callable_of Tryd.func37 (by kernel_rfl)) rfl fun X w vs hg hc hr => by
    obtain ⟨v, hv, r1⟩ := reps1 hr
    cases r1 with
    | c r1 =>
    cases r1
    have hvs : vs = #[.int .i64 n] := Array.ext' hv
    rw [hvs]
    refine (Tryd.strconv_Itoa n h0 h1 w (tab_var hg)).mono ?_
    rintro e w' ⟨he, k, os, hw⟩
    refine ⟨he, ?_⟩
    rw [hw]
    have hh : (Sort.grow (w.drewN k) os).heap = w.heap ++ os := rfl
    exact ⟨rfl, rfl, rfl, by rw [hh]; simp, fun j hj => by rw [hh, Array.getElem?_append_left hj]⟩
end Go.Proofs.YtaeehadibckcjaaDoor

/-
  Chapter 11: a policy's text, by the program.
-/
namespace Go.Proofs.YtaeehadibckcjaaDoor
open Go.RowKit Go.Vs Go.Vs.Ab
set_option maxRecDepth 100000
set_option maxHeartbeats 4000000
theorem itoaB_size (n : Int) (h0 : -9223372036854775808 ≤ n) (h1 : n ≤ 9223372036854775807) : (itoaB n).size ≤ 21 := Lib.itoa_length_le n h0 h1
def cum {T : Type} (l : List T) (parts : T → List ByteArray) (k : Nat) : ByteArray := catB ((l.take k).map fun x => catB (parts x) ++ tDot)
theorem cum_zero {T : Type} (l : List T) (parts : T → List ByteArray) : cum l parts 0 = ⟨#[]⟩ := rfl
theorem cum_next {T : Type} {l : List T} (parts : T → List ByteArray) {k : Nat} (h : k < l.length) : cum l parts (k + 1) = cum l parts k ++ (catB (parts l[k]) ++ tDot) := by
  unfold cum
  rw [List.take_succ_eq_append_getElem h, List.map_append, List.map_singleton, catB_snoc]
theorem cum_size {T : Type} {l : List T} {parts : T → List ByteArray} (h : ∀ x ∈ l, (catB (parts x)).size ≤ 2000000000) : ∀ k, k ≤ l.length → (cum l parts k).size ≤ k * 2000000002
  | 0, _ => by rw [cum_zero]; exact Nat.zero_le _
  | k + 1, hk => by
    have ih := cum_size h k (by omega)
    have h2 := h l[k] (List.getElem_mem (by omega))
    have e1 : tDot.size = 2 := rfl
    rw [cum_next parts (by omega), app_size, app_size, e1]
    omega
theorem PgM.addL {b : Nat} {o : ByteArray} : ∀ (bs : List Blk) {m : Mm}, PgM m b o → (∀ blk ∈ bs, blk.fz = false ∧ ∀ i j, lows i j blk.cs = true) → PgM ⟨m.hp ++ bs, m.hw⟩ b o := fun bs => by
  induction bs with
  | nil => intro m h _; simpa using h
  | cons blk r ih =>
    intro m h hb
    obtain ⟨h1, h2⟩ := hb blk (by simp)
    have h3 := h.add (cs := blk.cs) h2
    obtain ⟨fz, cs⟩ := blk
    subst h1
    have h4 := ih h3 (fun y hy => hb y (by simp [hy]))
    simpa using h4
theorem items {T : Type} (l : List T) (parts : T → List ByteArray) (bl : T → List Blk) {m : Mm} {b : Nat} {o : ByteArray} (h : PgM m b o) (ho : o.size ≤ 50000000000000) (hl : l.length ≤ 1000)
    (hp : ∀ x ∈ l, (catB (parts x)).size ≤ 2000000000 ∧ (parts x).length ≤ 1000000) (hb : ∀ x, ∀ blk ∈ bl x, blk.fz = false ∧ ∀ i j, lows i j blk.cs = true) :
    ∃ ms : Nat → Mm, ms 0 = m ∧ (∀ k, k ≤ l.length → PgM (ms k) b (o ++ cum l parts k) ∧ KpP m (ms k)) ∧
      ∀ k, k < l.length → ∀ hk : k < l.length, GivesW Tryd.prog 36 [.ptr b 0, slS true (parts l[k])] ⟨(ms k).hp ++ bl l[k], (ms k).hw⟩ (.tup []) (ms (k + 1)) := by
  refine chain (fun k => o ++ cum l parts k) (fun k m' m2 => ∀ hk : k < l.length, GivesW Tryd.prog 36 [.ptr b 0, slS true (parts l[k])] ⟨m'.hp ++ bl l[k], m'.hw⟩ (.tup []) m2) (by
    show PgM m b (o ++ ⟨#[]⟩)
    rw [app_e]
    exact h) l.length (fun k hk m' hp' _ => ?_)
  obtain ⟨q1, q2⟩ := hp l[k] (List.getElem_mem hk)
  have hz := cum_size (fun x hx => (hp x hx).1) k (by omega)
  have hz2 : k * 2000000002 ≤ 1000 * 2000000002 := Nat.mul_le_mul_right _ (by omega)
  obtain ⟨m2, g1, g2, g3⟩ := line_page (PgM.addL (bl l[k]) hp' (hb l[k])) (parts l[k]) true q2 (by rw [app_size]; omega)
  refine ⟨m2, fun _ => g1, ?_, ⟨g3.hw, Nat.le_trans (by simp) g3.len, fun i blk hpl hi => g3.old i blk hpl (by show (m'.hp ++ _)[i]? = _; rw [List.getElem?_append_left (List.getElem?_eq_some_iff.1 hi).1]; exact hi)⟩⟩
  rw [cum_next parts hk, ← ByteArray.append_assoc, ← ByteArray.append_assoc]
  exact g2
abbrev tPrin : ByteArray := ⟨#[112, 114, 105, 110, 99, 105, 112, 97, 108, 32]⟩
abbrev tPred : ByteArray := ⟨#[112, 114, 101, 100, 32]⟩
abbrev tSl : ByteArray := ⟨#[47]⟩
abbrev tQuo : ByteArray := ⟨#[113, 117, 111, 116, 97, 32]⟩
abbrev tBud : ByteArray := ⟨#[98, 117, 100, 103, 101, 116, 32]⟩
def prPrin (s : ByteArray) : List ByteArray := [tPrin, s]
def prPred (x : Prd) : List ByteArray := [tPred, x.name, tSl, itoaB x.ar]
def prClr (c : Clr) : List ByteArray := [pClear c]
def prRul (r : Rul) : List ByteArray := [pRule r]
def prGrt (g : Grt) : List ByteArray := [pGrant g]
def all_ {T : Type} (l : List T) (parts : T → List ByteArray) : ByteArray := cum l parts l.length
def pPolicy (p : Pol) : ByteArray := (((((all_ p.prin prPrin ++ all_ p.preds prPred) ++ all_ p.clears prClr) ++ ((tQuo ++ itoaB p.quota) ++ tDot)) ++ ((tBud ++ itoaB p.budget) ++ tDot)) ++ all_ p.rules prRul) ++ all_ p.grants prGrt
structure PolOk (p : Pol) : Prop where
  prin : p.prin.length ≤ 1000 ∧ ∀ s ∈ p.prin, s.size ≤ 1000000
  preds : p.preds.length ≤ 1000 ∧ ∀ x ∈ p.preds, x.name.size ≤ 1000000 ∧ -9223372036854775808 ≤ x.ar ∧ x.ar ≤ 9223372036854775807
  clears : p.clears.length ≤ 1000 ∧ ∀ c ∈ p.clears, c.who.size ≤ 1000000 ∧ c.reads.length ≤ 1000 ∧ (joinB c.reads tComma).size ≤ 1000000
  quota : -9223372036854775808 ≤ p.quota ∧ p.quota ≤ 9223372036854775807
  budget : -9223372036854775808 ≤ p.budget ∧ p.budget ≤ 9223372036854775807
  rules : p.rules.length ≤ 1000 ∧ ∀ r ∈ p.rules, AtSz r.head ∧ (∀ a ∈ r.body, AtSz a) ∧ r.body.length ≤ 100
  grants : p.grants.length ≤ 1000 ∧ ∀ g ∈ p.grants, g.tw.size ≤ 1000000 ∧ AtSz g.head ∧ (∀ a ∈ g.body, AtSz a) ∧ g.body.length ≤ 100
theorem pbody_size {l : List Atm} (h : ∀ a ∈ l, AtSz a) (hl : l.length ≤ 100) : (pbody l).size ≤ 1000001000 := by
  have h1 := pbodyK_size h l.length
  have h2 : l.length * 10000010 ≤ 100 * 10000010 := Nat.mul_le_mul_right _ hl
  unfold pbody
  omega
theorem cat4 (x y z u : ByteArray) : (catB [x, y, z, u]).size = x.size + (y.size + (z.size + u.size)) := by
  show (x ++ (y ++ (z ++ (u ++ ⟨#[]⟩)))).size = _
  rw [app_e, app_size, app_size, app_size]
theorem low1 {b i j : Nat} {c : CV} {n k : Int} {s t u : Nat} (h0 : 0 < i) (h : b < i) : lowF i j [(1, .ptr 0 0), (3, .ptr b 0), (s, .c c), (t, iA n), (u, iA k)] = true := by
  simp only [lowF, low, Bool.and_true, Nat.blt_eq, Bool.and_eq_true]
  exact ⟨h0, h⟩
theorem pClear_size (c : Clr) (h1 : c.who.size ≤ 1000000) (h3 : (joinB c.reads tComma).size ≤ 1000000) : (pClear c).size ≤ 3000000 := by
  have z1 : tClr.size = 6 := rfl
  have z2 : tCol.size = 1 := rfl
  have z3 : tSp.size = 1 := rfl
  unfold pClear
  rw [app_size, app_size, app_size]
  split
  · have : (⟨#[]⟩ : ByteArray).size = 0 := rfl
    omega
  · rw [app_size]; omega
theorem pGrant_size (g : Grt) (h0 : g.tw.size ≤ 1000000) (h1 : AtSz g.head) (h2 : ∀ a ∈ g.body, AtSz a) (h3 : g.body.length ≤ 100) : (pGrant g).size ≤ 1500000000 := by
  have hb := pbody_size h2 h3
  have ht := ptext_size h1
  obtain ⟨q1, q2, q3⟩ := h1
  have hp : (psaid g.head).size ≤ 10000000 := by
    unfold ptext at ht
    rw [app_size] at ht
    omega
  have z1 : tSays.size = 6 := rfl
  have z2 : tCan.size = 8 := rfl
  unfold pGrant
  have hc : (catB [g.head.says, tSays, g.tw, tCan, psaid g.head]).size = g.head.says.size + (tSays.size + (g.tw.size + (tCan.size + (psaid g.head).size))) := by
    show (g.head.says ++ (tSays ++ (g.tw ++ (tCan ++ (psaid g.head ++ (⟨#[]⟩ : ByteArray)))))).size = _
    rw [app_e, app_size, app_size, app_size, app_size]
  rw [app_size, hc]
  omega
theorem idxS2 {ex : Bool} {l : List ByteArray} {k : Nat} (h : k < l.length) : aIndexAddr Tryd.prog 23 (.c (slC stC ex l)) (.c (.v (.int .i64 (k : Int)))) = some (.cptr (stC l[k] ++ (l.drop (k + 1)).flatMap stC)) := idxS' h
theorem polText_does (p : Pol) (hk : PolOk p) : Does Tryd.prog 10 [poA p] (fun m => (sA (pPolicy p), m)) := by
  have z1 : tPrin.size = 10 := rfl
  have z2 : tPred.size = 5 := rfl
  have z3 : tSl.size = 1 := rfl
  have z4 : tQuo.size = 6 := rfl
  have z5 : tBud.size = 7 := rfl
  have zD : tDot.size = 2 := rfl
  obtain ⟨m0, hm0⟩ : ∃ m0 : Mm, m0 = ⟨[⟨false, (poC p).map AV.c⟩] ++ [⟨false, [.bld 81 false (.c (.v (.slice none 0 0)))]⟩], []⟩ := ⟨_, rfl⟩
  have hp0 : PgM m0 1 ⟨#[]⟩ := by rw [hm0]; exact fresh_page [⟨false, (poC p).map AV.c⟩] rfl
  have hb0 : m0.hp[0]? = some ⟨false, [.c (slC stC p.e1 p.prin), .c (slC prC p.e2 p.preds), .c (slC clC p.e3 p.clears), iA p.quota, iA p.budget, .c (slC ruC p.e4 p.rules), .c (slC grC p.e5 p.grants)]⟩ := by rw [hm0]; rfl
  have hs1 : ∀ x ∈ p.prin, (catB (prPrin x)).size ≤ 2000000000 := fun x hx => by
    have hx := hk.prin.2 x hx; rw [prPrin, cat2, app_size]; omega
  obtain ⟨ms1, a1, b1, c1⟩ := items p.prin prPrin (fun _ => []) hp0 (Nat.zero_le _) hk.prin.1 (fun x hx => ⟨hs1 x hx, Nat.le_of_ble_eq_true rfl⟩) (fun x blk hb => by cases hb)
  obtain ⟨h1, k1⟩ := b1 p.prin.length (Nat.le_refl _)
  have q1 := cum_size hs1 p.prin.length (Nat.le_refl _)
  have r1 : p.prin.length * 2000000002 ≤ 1000 * 2000000002 := Nat.mul_le_mul_right _ hk.prin.1
  have hb1 := k1.old 0 _ rfl hb0
  rw [none_app rfl] at h1
  have hs2 : ∀ x ∈ p.preds, (catB (prPred x)).size ≤ 2000000000 := fun x hx => by
    have hx := hk.preds.2 x hx; have := itoaB_size x.ar hx.2.1 hx.2.2; rw [prPred, cat4]; omega
  obtain ⟨ms2, a2, b2, c2⟩ := items p.preds prPred (fun x => [⟨false, (prC x).map AV.c⟩]) h1 (by omega) hk.preds.1 (fun x hx => ⟨hs2 x hx, Nat.le_of_ble_eq_true rfl⟩) (fun x blk hb => by simp only [List.mem_singleton] at hb; subst hb; exact ⟨rfl, fun i j => rfl⟩)
  obtain ⟨h2, k2⟩ := b2 p.preds.length (Nat.le_refl _)
  have q2 := cum_size hs2 p.preds.length (Nat.le_refl _)
  have r2 : p.preds.length * 2000000002 ≤ 1000 * 2000000002 := Nat.mul_le_mul_right _ hk.preds.1
  have hb2 := k2.old 0 _ rfl hb1
  have hs3 : ∀ x ∈ p.clears, (catB (prClr x)).size ≤ 2000000000 := fun x hx => by
    have hx := hk.clears.2 x hx; rw [prClr, cat1]; have := pClear_size x hx.1 hx.2.2; omega
  obtain ⟨ms3, a3, b3, c3⟩ := items p.clears prClr (fun x => [⟨false, (clC x).map AV.c⟩]) h2 (by rw [app_size]; omega) hk.clears.1 (fun x hx => ⟨hs3 x hx, Nat.le_of_ble_eq_true rfl⟩) (fun x blk hb => by simp only [List.mem_singleton] at hb; subst hb; exact ⟨rfl, fun i j => rfl⟩)
  obtain ⟨h3, k3⟩ := b3 p.clears.length (Nat.le_refl _)
  have q3 := cum_size hs3 p.clears.length (Nat.le_refl _)
  have r3 : p.clears.length * 2000000002 ≤ 1000 * 2000000002 := Nat.mul_le_mul_right _ hk.clears.1
  have hb3 := k3.old 0 _ rfl hb2
  have iq := itoaB_size p.quota hk.quota.1 hk.quota.2
  have ib := itoaB_size p.budget hk.budget.1 hk.budget.2
  obtain ⟨mD, cD, hD, kD⟩ := line_page h3 [tQuo, itoaB p.quota] true (two_le _ _) (by rw [cat2, app_size, app_size, app_size]; omega)
  rw [cat2, ByteArray.append_assoc] at hD
  have hbD := kD.old 0 _ rfl hb3
  obtain ⟨mE, cE, hE, kE⟩ := line_page hD [tBud, itoaB p.budget] true (two_le _ _) (by rw [cat2, app_size, app_size, app_size, app_size, app_size, app_size]; omega)
  rw [cat2, ByteArray.append_assoc] at hE
  have hbE := kE.old 0 _ rfl hbD
  have hs4 : ∀ x ∈ p.rules, (catB (prRul x)).size ≤ 2000000000 := fun x hx => by
    have hx := hk.rules.2 x hx; rw [prRul, cat1, pRule, app_size]; have := pbody_size hx.2.1 hx.2.2; have := ptext_size hx.1; omega
  obtain ⟨ms4, a4, b4, c4⟩ := items p.rules prRul (fun x => [⟨false, (ruC x).map AV.c⟩]) hE (by simp only [app_size]; omega) hk.rules.1 (fun x hx => ⟨hs4 x hx, Nat.le_of_ble_eq_true rfl⟩) (fun x blk hb => by simp only [List.mem_singleton] at hb; subst hb; exact ⟨rfl, fun i j => rfl⟩)
  obtain ⟨h4, k4⟩ := b4 p.rules.length (Nat.le_refl _)
  have q4 := cum_size hs4 p.rules.length (Nat.le_refl _)
  have r4 : p.rules.length * 2000000002 ≤ 1000 * 2000000002 := Nat.mul_le_mul_right _ hk.rules.1
  have hb4 := k4.old 0 _ rfl hbE
  have hs5 : ∀ x ∈ p.grants, (catB (prGrt x)).size ≤ 2000000000 := fun x hx => by
    have hx := hk.grants.2 x hx; rw [prGrt, cat1]; have := pGrant_size x hx.1 hx.2.1 hx.2.2.1 hx.2.2.2; omega
  obtain ⟨ms5, a5, b5, c5⟩ := items p.grants prGrt (fun x => [⟨false, (grC x).map AV.c⟩]) h4 (by simp only [app_size]; omega) hk.grants.1 (fun x hx => ⟨hs5 x hx, Nat.le_of_ble_eq_true rfl⟩) (fun x blk hb => by simp only [List.mem_singleton] at hb; subst hb; exact ⟨rfl, fun i j => rfl⟩)
  obtain ⟨h5, k5⟩ := b5 p.grants.length (Nat.le_refl _)
  have q5 := cum_size hs5 p.grants.length (Nat.le_refl _)
  have r5 : p.grants.length * 2000000002 ≤ 1000 * 2000000002 := Nat.mul_le_mul_right _ hk.grants.1
  have hb5 := k5.old 0 _ rfl hb4
  obtain ⟨mH, cH⟩ := str_page h5
  have cH : GivesW Tryd.prog 38 [.ptr 1 0] (ms5 p.grants.length) (sA (pPolicy p)) mH := cH
  have cQ := itoaI_does p.quota hk.quota.1 hk.quota.2
  have cB := itoaI_does p.budget hk.budget.1 hk.budget.2
  have cD : GivesW Tryd.prog 36 [.ptr 1 0, .c (.sl true 2 [.v (.string tQuo), .v (.string (itoaB p.quota))])] (ms3 p.clears.length) (.tup []) mD := cD
  have cE : GivesW Tryd.prog 36 [.ptr 1 0, .c (.sl true 2 [.v (.string tBud), .v (.string (itoaB p.budget))])] mD (.tup []) mE := cE
  have l1 := (b1 0 (Nat.zero_le _)).1.lt
  clear hp0 hb0 hs1 hs2 hs3 hs4 hs5
  refine does_of' Tryd.func10 rfl (by kernel_rfl) rfl Tryd.ntmps10 rfl rfl fun Q hQ => ?_
  repeat (first
      | refine tr_seq_k fun _ _ => ?_
      | (refine tr_region ?_; simp only [go_sem, List.getElem?_toArray, str_beq, reduceCtorEq, Nat.reduceEqDiff, Nat.reduceLT, Nat.reduceLeDiff, Nat.reduceAdd, Nat.reduceMul, Nat.reduceSub, Nat.reduceBEq, ↓reduceIte, bne_self_eq_false, Bool.and_false, Bool.false_and, Bool.true_or, Bool.false_or])
      | (refine tr_draw (id := 10) follows 6 [4, 5, 6] [0, 1, 2, 3, 4, 5, 6] (by kernel_rfl) ?_; simp only [go_sem, List.getElem?_toArray, str_beq, reduceCtorEq, Nat.reduceEqDiff, Nat.reduceLT, Nat.reduceLeDiff, Nat.reduceAdd, Nat.reduceMul, Nat.reduceSub, Nat.reduceBEq, ↓reduceIte, bne_self_eq_false, Bool.and_false, Bool.false_and, Bool.true_or, Bool.false_or])
      | refine k_of (by assumption) ?_
      | refine tr_block ?_
      | refine tr_scope ?_
      | (refine tr_skip ?_; try simp only [ex_seq, ex_block])
      | (refine tr_label ?_; try simp only [ex_seq, ex_block])
      | (refine tr_exit ?_; try simp only [ex_seq_exit, ex_block_exit, Nat.reduceEqDiff, if_true, if_false, ex_seq, ex_block, reduceCtorEq, ↓reduceIte])
      | (refine tr_ret ?_; try simp only [ex_seq_ret, ex_block_ret]))
  refine tr_loop_k (σ := Nat) (fun k => [(1, .ptr 0 0), (3, .ptr 1 0), (15, .c (slC stC p.e1 p.prin)), (16, iA p.prin.length), (17, iA k)]) (fun k => ms1 k) (fun k => k ≤ p.prin.length) (fun k => p.prin.length - k) 0 (Nat.zero_le _) ⟨rfl, rfl, rfl, rfl, rfl, trivial⟩ (by rw [a1, hm0]; rfl) ?_
  rintro k hkk K hK
  by_cases hkl : k < p.prin.length
  · have d1 : decide ((k : Int) < (p.prin.length : Nat)) = true := decide_eq_true (by omega)
    have ix := idxS2 (ex := p.e1) hkl
    have ws := wrap_succ (show k ≤ 1000000000 by have := hk.prin.1; omega)
    have cP := c1 k hkl hkl
    have hp := b1 (k + 1) hkl
    have hx := hk.prin.2 p.prin[k] (List.getElem_mem hkl)
    rw [List.append_nil] at cP
    generalize p.prin[k] = x at *
    have cP : GivesW Tryd.prog 36 [.ptr 1 0, .c (.sl true 2 [.v (.string tPrin), .v (.string x)])] (ms1 k) (.tup []) (ms1 (k + 1)) := cP
    repeat (first
        | refine tr_seq_k fun _ _ => ?_
        | (refine tr_region ?_; simp only [go_sem, List.getElem?_toArray, str_beq, reduceCtorEq, Nat.reduceEqDiff, Nat.reduceLT, Nat.reduceLeDiff, Nat.reduceAdd, Nat.reduceMul, Nat.reduceSub, Nat.reduceBEq, ↓reduceIte, bne_self_eq_false, Bool.and_false, Bool.false_and, Bool.true_or, Bool.false_or, d1])
        | (refine tr_draw (id := 10) follows 6 [4, 5, 6] [0, 1, 2, 3, 4, 5, 6] (by kernel_rfl) ?_; simp only [go_sem, List.getElem?_toArray, str_beq, reduceCtorEq, Nat.reduceEqDiff, Nat.reduceLT, Nat.reduceLeDiff, Nat.reduceAdd, Nat.reduceMul, Nat.reduceSub, Nat.reduceBEq, ↓reduceIte, bne_self_eq_false, Bool.and_false, Bool.false_and, Bool.true_or, Bool.false_or, d1])
        | refine k_of (by assumption) ?_
        | refine tr_block ?_
        | refine tr_scope ?_
        | (refine tr_skip ?_; try simp only [ex_seq, ex_block])
        | (refine tr_label ?_; try simp only [ex_seq, ex_block])
        | (refine tr_exit ?_; try simp only [ex_seq_exit, ex_block_exit, Nat.reduceEqDiff, if_true, if_false, ex_seq, ex_block, reduceCtorEq, ↓reduceIte])
        | (refine tr_ret ?_; try simp only [ex_seq_ret, ex_block_ret]))
    refine tr_cond rfl (fun ht => ?_) (fun hf => ?_)
    · repeat (first
          | refine tr_seq_k fun _ _ => ?_
          | (refine tr_region ?_; simp only [go_sem, List.getElem?_toArray, str_beq, reduceCtorEq, Nat.reduceEqDiff, Nat.reduceLT, Nat.reduceLeDiff, Nat.reduceAdd, Nat.reduceMul, Nat.reduceSub, Nat.reduceBEq, ↓reduceIte, bne_self_eq_false, Bool.and_false, Bool.false_and, Bool.true_or, Bool.false_or, ix, ws])
          | (refine tr_draw (id := 10) follows 6 [4, 5, 6] [0, 1, 2, 3, 4, 5, 6] (by kernel_rfl) ?_; simp only [go_sem, List.getElem?_toArray, str_beq, reduceCtorEq, Nat.reduceEqDiff, Nat.reduceLT, Nat.reduceLeDiff, Nat.reduceAdd, Nat.reduceMul, Nat.reduceSub, Nat.reduceBEq, ↓reduceIte, bne_self_eq_false, Bool.and_false, Bool.false_and, Bool.true_or, Bool.false_or, ix, ws])
          | (refine call_givesW (cP) ?_; (try dsimp only); (try simp only [go_sem, List.getElem?_toArray, str_beq, reduceCtorEq, Nat.reduceEqDiff, Nat.reduceLT, Nat.reduceLeDiff, Nat.reduceAdd, Nat.reduceMul, Nat.reduceSub, Nat.reduceBEq, ↓reduceIte, bne_self_eq_false, Bool.and_false, Bool.false_and, Bool.true_or, Bool.false_or, ix, ws]))
          | refine k_of (by assumption) ?_
          | refine tr_block ?_
          | refine tr_scope ?_
          | (refine tr_skip ?_; try simp only [ex_seq, ex_block])
          | (refine tr_label ?_; try simp only [ex_seq, ex_block])
          | (refine tr_exit ?_; try simp only [ex_seq_exit, ex_block_exit, Nat.reduceEqDiff, if_true, if_false, ex_seq, ex_block, reduceCtorEq, ↓reduceIte])
          | (refine tr_ret ?_; try simp only [ex_seq_ret, ex_block_ret]))
      exact hK (k + 1) _ _ hkl ⟨⟨rfl, rfl, rfl, rfl, rfl, trivial⟩, Keep.refl _, low1 (Nat.lt_trans Nat.zero_lt_one hp.1.lt) hp.1.lt, hp.1.wf, by rw [a1]; exact hp.2.len, by rw [a1, hp.2.hw]; exact Nat.le_refl _⟩ (by omega)
    · cases hf
  · have d1 : decide ((k : Int) < (p.prin.length : Nat)) = false := decide_eq_false (by omega)
    obtain rfl : k = p.prin.length := by omega
    repeat (first
        | refine tr_seq_k fun _ _ => ?_
        | (refine tr_region ?_; simp only [go_sem, List.getElem?_toArray, str_beq, reduceCtorEq, Nat.reduceEqDiff, Nat.reduceLT, Nat.reduceLeDiff, Nat.reduceAdd, Nat.reduceMul, Nat.reduceSub, Nat.reduceBEq, ↓reduceIte, bne_self_eq_false, Bool.and_false, Bool.false_and, Bool.true_or, Bool.false_or, d1])
        | (refine tr_draw (id := 10) follows 6 [4, 5, 6] [0, 1, 2, 3, 4, 5, 6] (by kernel_rfl) ?_; simp only [go_sem, List.getElem?_toArray, str_beq, reduceCtorEq, Nat.reduceEqDiff, Nat.reduceLT, Nat.reduceLeDiff, Nat.reduceAdd, Nat.reduceMul, Nat.reduceSub, Nat.reduceBEq, ↓reduceIte, bne_self_eq_false, Bool.and_false, Bool.false_and, Bool.true_or, Bool.false_or, d1])
        | refine k_of (by assumption) ?_
        | refine tr_block ?_
        | refine tr_scope ?_
        | (refine tr_skip ?_; try simp only [ex_seq, ex_block])
        | (refine tr_label ?_; try simp only [ex_seq, ex_block])
        | (refine tr_exit ?_; try simp only [ex_seq_exit, ex_block_exit, Nat.reduceEqDiff, if_true, if_false, ex_seq, ex_block, reduceCtorEq, ↓reduceIte])
        | (refine tr_ret ?_; try simp only [ex_seq_ret, ex_block_ret]))
    refine tr_cond rfl (fun ht => ?_) (fun hf => ?_)
    · cases ht
    · repeat (first
          | refine tr_seq_k fun _ _ => ?_
          | (refine tr_region ?_; simp only [go_sem, List.getElem?_toArray, str_beq, reduceCtorEq, Nat.reduceEqDiff, Nat.reduceLT, Nat.reduceLeDiff, Nat.reduceAdd, Nat.reduceMul, Nat.reduceSub, Nat.reduceBEq, ↓reduceIte, bne_self_eq_false, Bool.and_false, Bool.false_and, Bool.true_or, Bool.false_or, hb1])
          | (refine tr_draw (id := 10) follows 6 [4, 5, 6] [0, 1, 2, 3, 4, 5, 6] (by kernel_rfl) ?_; simp only [go_sem, List.getElem?_toArray, str_beq, reduceCtorEq, Nat.reduceEqDiff, Nat.reduceLT, Nat.reduceLeDiff, Nat.reduceAdd, Nat.reduceMul, Nat.reduceSub, Nat.reduceBEq, ↓reduceIte, bne_self_eq_false, Bool.and_false, Bool.false_and, Bool.true_or, Bool.false_or, hb1])
          | refine k_of (by assumption) ?_
          | refine tr_block ?_
          | refine tr_scope ?_
          | (refine tr_skip ?_; try simp only [ex_seq, ex_block])
          | (refine tr_label ?_; try simp only [ex_seq, ex_block])
          | (refine tr_exit ?_; try simp only [ex_seq_exit, ex_block_exit, Nat.reduceEqDiff, if_true, if_false, ex_seq, ex_block, reduceCtorEq, ↓reduceIte])
          | (refine tr_ret ?_; try simp only [ex_seq_ret, ex_block_ret]))
      refine tr_loop_k (σ := Nat) (fun k => [(1, .ptr 0 0), (3, .ptr 1 0), (26, .c (slC prC p.e2 p.preds)), (27, iA p.preds.length), (28, iA k)]) (fun k => ms2 k) (fun k => k ≤ p.preds.length) (fun k => p.preds.length - k) 0 (Nat.zero_le _) ⟨rfl, rfl, rfl, rfl, rfl, trivial⟩ (a2.symm) ?_
      rintro k hkk K hK
      by_cases hkl : k < p.preds.length
      · have d1 : decide ((k : Int) < (p.preds.length : Nat)) = true := decide_eq_true (by omega)
        have ix := idxP (ex := p.e2) hkl
        have ws := wrap_succ (show k ≤ 1000000000 by have := hk.preds.1; omega)
        have cP := c2 k hkl hkl
        have hp := b2 (k + 1) hkl
        have hx := hk.preds.2 p.preds[k] (List.getElem_mem hkl)
        have hA : ∀ x : Blk, ((ms2 k).hp ++ [x])[(ms2 k).hp.length]? = some x := fun x => by simp
        have hS : ∀ x y : Blk, ((ms2 k).hp ++ [x]).set (ms2 k).hp.length y = (ms2 k).hp ++ [y] := fun x y => by simp
        generalize p.preds[k] = x at *
        have cX := itoaI_does x.ar hx.2.1 hx.2.2
        have cP : GivesW Tryd.prog 36 [.ptr 1 0, .c (.sl true 4 [.v (.string tPred), .v (.string x.name), .v (.string tSl), .v (.string (itoaB x.ar))])] ⟨(ms2 k).hp ++ [⟨false, (prC x).map AV.c⟩], (ms2 k).hw⟩ (.tup []) (ms2 (k + 1)) := cP
        repeat (first
            | refine tr_seq_k fun _ _ => ?_
            | (refine tr_region ?_; simp only [go_sem, List.getElem?_toArray, str_beq, reduceCtorEq, Nat.reduceEqDiff, Nat.reduceLT, Nat.reduceLeDiff, Nat.reduceAdd, Nat.reduceMul, Nat.reduceSub, Nat.reduceBEq, ↓reduceIte, bne_self_eq_false, Bool.and_false, Bool.false_and, Bool.true_or, Bool.false_or, d1])
            | (refine tr_draw (id := 10) follows 6 [4, 5, 6] [0, 1, 2, 3, 4, 5, 6] (by kernel_rfl) ?_; simp only [go_sem, List.getElem?_toArray, str_beq, reduceCtorEq, Nat.reduceEqDiff, Nat.reduceLT, Nat.reduceLeDiff, Nat.reduceAdd, Nat.reduceMul, Nat.reduceSub, Nat.reduceBEq, ↓reduceIte, bne_self_eq_false, Bool.and_false, Bool.false_and, Bool.true_or, Bool.false_or, d1])
            | refine k_of (by assumption) ?_
            | refine tr_block ?_
            | refine tr_scope ?_
            | (refine tr_skip ?_; try simp only [ex_seq, ex_block])
            | (refine tr_label ?_; try simp only [ex_seq, ex_block])
            | (refine tr_exit ?_; try simp only [ex_seq_exit, ex_block_exit, Nat.reduceEqDiff, if_true, if_false, ex_seq, ex_block, reduceCtorEq, ↓reduceIte])
            | (refine tr_ret ?_; try simp only [ex_seq_ret, ex_block_ret]))
        refine tr_cond rfl (fun ht => ?_) (fun hf => ?_)
        · repeat (first
              | refine tr_seq_k fun _ _ => ?_
              | (refine tr_region ?_; simp only [go_sem, List.getElem?_toArray, str_beq, reduceCtorEq, Nat.reduceEqDiff, Nat.reduceLT, Nat.reduceLeDiff, Nat.reduceAdd, Nat.reduceMul, Nat.reduceSub, Nat.reduceBEq, ↓reduceIte, bne_self_eq_false, Bool.and_false, Bool.false_and, Bool.true_or, Bool.false_or, ix, ws, hA, hS])
              | (refine tr_draw (id := 10) follows 6 [4, 5, 6] [0, 1, 2, 3, 4, 5, 6] (by kernel_rfl) ?_; simp only [go_sem, List.getElem?_toArray, str_beq, reduceCtorEq, Nat.reduceEqDiff, Nat.reduceLT, Nat.reduceLeDiff, Nat.reduceAdd, Nat.reduceMul, Nat.reduceSub, Nat.reduceBEq, ↓reduceIte, bne_self_eq_false, Bool.and_false, Bool.false_and, Bool.true_or, Bool.false_or, ix, ws, hA, hS])
              | (refine call_of (cX) ?_ ?_
                 · first | rfl | simp only [go_sem, List.getElem?_toArray, str_beq, reduceCtorEq, Nat.reduceEqDiff, Nat.reduceLT, Nat.reduceLeDiff, Nat.reduceAdd, Nat.reduceMul, Nat.reduceSub, Nat.reduceBEq, ↓reduceIte, bne_self_eq_false, Bool.and_false, Bool.false_and, Bool.true_or, Bool.false_or, ix, ws, hA, hS, shut_col]
                 simp only [go_sem, List.getElem?_toArray, str_beq, reduceCtorEq, Nat.reduceEqDiff, Nat.reduceLT, Nat.reduceLeDiff, Nat.reduceAdd, Nat.reduceMul, Nat.reduceSub, Nat.reduceBEq, ↓reduceIte, bne_self_eq_false, Bool.and_false, Bool.false_and, Bool.true_or, Bool.false_or, ix, ws, hA, hS])
              | (refine call_givesW (cP) ?_; (try dsimp only); (try simp only [go_sem, List.getElem?_toArray, str_beq, reduceCtorEq, Nat.reduceEqDiff, Nat.reduceLT, Nat.reduceLeDiff, Nat.reduceAdd, Nat.reduceMul, Nat.reduceSub, Nat.reduceBEq, ↓reduceIte, bne_self_eq_false, Bool.and_false, Bool.false_and, Bool.true_or, Bool.false_or, ix, ws, hA, hS]))
              | refine k_of (by assumption) ?_
              | refine tr_block ?_
              | refine tr_scope ?_
              | (refine tr_skip ?_; try simp only [ex_seq, ex_block])
              | (refine tr_label ?_; try simp only [ex_seq, ex_block])
              | (refine tr_exit ?_; try simp only [ex_seq_exit, ex_block_exit, Nat.reduceEqDiff, if_true, if_false, ex_seq, ex_block, reduceCtorEq, ↓reduceIte])
              | (refine tr_ret ?_; try simp only [ex_seq_ret, ex_block_ret]))
          exact hK (k + 1) _ _ hkl ⟨⟨rfl, rfl, rfl, rfl, rfl, trivial⟩, Keep.refl _, low1 (Nat.lt_trans Nat.zero_lt_one hp.1.lt) hp.1.lt, hp.1.wf, by rw [a2]; exact hp.2.len, by rw [a2, hp.2.hw]; exact Nat.le_refl _⟩ (by omega)
        · cases hf
      · have d1 : decide ((k : Int) < (p.preds.length : Nat)) = false := decide_eq_false (by omega)
        obtain rfl : k = p.preds.length := by omega
        repeat (first
            | refine tr_seq_k fun _ _ => ?_
            | (refine tr_region ?_; simp only [go_sem, List.getElem?_toArray, str_beq, reduceCtorEq, Nat.reduceEqDiff, Nat.reduceLT, Nat.reduceLeDiff, Nat.reduceAdd, Nat.reduceMul, Nat.reduceSub, Nat.reduceBEq, ↓reduceIte, bne_self_eq_false, Bool.and_false, Bool.false_and, Bool.true_or, Bool.false_or, d1])
            | (refine tr_draw (id := 10) follows 6 [4, 5, 6] [0, 1, 2, 3, 4, 5, 6] (by kernel_rfl) ?_; simp only [go_sem, List.getElem?_toArray, str_beq, reduceCtorEq, Nat.reduceEqDiff, Nat.reduceLT, Nat.reduceLeDiff, Nat.reduceAdd, Nat.reduceMul, Nat.reduceSub, Nat.reduceBEq, ↓reduceIte, bne_self_eq_false, Bool.and_false, Bool.false_and, Bool.true_or, Bool.false_or, d1])
            | refine k_of (by assumption) ?_
            | refine tr_block ?_
            | refine tr_scope ?_
            | (refine tr_skip ?_; try simp only [ex_seq, ex_block])
            | (refine tr_label ?_; try simp only [ex_seq, ex_block])
            | (refine tr_exit ?_; try simp only [ex_seq_exit, ex_block_exit, Nat.reduceEqDiff, if_true, if_false, ex_seq, ex_block, reduceCtorEq, ↓reduceIte])
            | (refine tr_ret ?_; try simp only [ex_seq_ret, ex_block_ret]))
        refine tr_cond rfl (fun ht => ?_) (fun hf => ?_)
        · cases ht
        · repeat (first
              | refine tr_seq_k fun _ _ => ?_
              | (refine tr_region ?_; simp only [go_sem, List.getElem?_toArray, str_beq, reduceCtorEq, Nat.reduceEqDiff, Nat.reduceLT, Nat.reduceLeDiff, Nat.reduceAdd, Nat.reduceMul, Nat.reduceSub, Nat.reduceBEq, ↓reduceIte, bne_self_eq_false, Bool.and_false, Bool.false_and, Bool.true_or, Bool.false_or, hb2])
              | (refine tr_draw (id := 10) follows 6 [4, 5, 6] [0, 1, 2, 3, 4, 5, 6] (by kernel_rfl) ?_; simp only [go_sem, List.getElem?_toArray, str_beq, reduceCtorEq, Nat.reduceEqDiff, Nat.reduceLT, Nat.reduceLeDiff, Nat.reduceAdd, Nat.reduceMul, Nat.reduceSub, Nat.reduceBEq, ↓reduceIte, bne_self_eq_false, Bool.and_false, Bool.false_and, Bool.true_or, Bool.false_or, hb2])
              | refine k_of (by assumption) ?_
              | refine tr_block ?_
              | refine tr_scope ?_
              | (refine tr_skip ?_; try simp only [ex_seq, ex_block])
              | (refine tr_label ?_; try simp only [ex_seq, ex_block])
              | (refine tr_exit ?_; try simp only [ex_seq_exit, ex_block_exit, Nat.reduceEqDiff, if_true, if_false, ex_seq, ex_block, reduceCtorEq, ↓reduceIte])
              | (refine tr_ret ?_; try simp only [ex_seq_ret, ex_block_ret]))
          refine tr_loop_k (σ := Nat) (fun k => [(1, .ptr 0 0), (3, .ptr 1 0), (41, .c (slC clC p.e3 p.clears)), (42, iA p.clears.length), (43, iA k)]) (fun k => ms3 k) (fun k => k ≤ p.clears.length) (fun k => p.clears.length - k) 0 (Nat.zero_le _) ⟨rfl, rfl, rfl, rfl, rfl, trivial⟩ (a3.symm) ?_
          rintro k hkk K hK
          by_cases hkl : k < p.clears.length
          · have d1 : decide ((k : Int) < (p.clears.length : Nat)) = true := decide_eq_true (by omega)
            have ix := idxC (ex := p.e3) hkl
            have ws := wrap_succ (show k ≤ 1000000000 by have := hk.clears.1; omega)
            have cP := c3 k hkl hkl
            have hp := b3 (k + 1) hkl
            have hx := hk.clears.2 p.clears[k] (List.getElem_mem hkl)
            have hA : ∀ x : Blk, ((ms3 k).hp ++ [x])[(ms3 k).hp.length]? = some x := fun x => by simp
            have hS : ∀ x y : Blk, ((ms3 k).hp ++ [x]).set (ms3 k).hp.length y = (ms3 k).hp ++ [y] := fun x y => by simp
            generalize p.clears[k] = x at *
            have cX := clear_does x hx.1 hx.2.1 hx.2.2
            have cP : GivesW Tryd.prog 36 [.ptr 1 0, .c (.sl true 1 [.v (.string (pClear x))])] ⟨(ms3 k).hp ++ [⟨false, (clC x).map AV.c⟩], (ms3 k).hw⟩ (.tup []) (ms3 (k + 1)) := cP
            repeat (first
                | refine tr_seq_k fun _ _ => ?_
                | (refine tr_region ?_; simp only [go_sem, List.getElem?_toArray, str_beq, reduceCtorEq, Nat.reduceEqDiff, Nat.reduceLT, Nat.reduceLeDiff, Nat.reduceAdd, Nat.reduceMul, Nat.reduceSub, Nat.reduceBEq, ↓reduceIte, bne_self_eq_false, Bool.and_false, Bool.false_and, Bool.true_or, Bool.false_or, d1])
                | (refine tr_draw (id := 10) follows 6 [4, 5, 6] [0, 1, 2, 3, 4, 5, 6] (by kernel_rfl) ?_; simp only [go_sem, List.getElem?_toArray, str_beq, reduceCtorEq, Nat.reduceEqDiff, Nat.reduceLT, Nat.reduceLeDiff, Nat.reduceAdd, Nat.reduceMul, Nat.reduceSub, Nat.reduceBEq, ↓reduceIte, bne_self_eq_false, Bool.and_false, Bool.false_and, Bool.true_or, Bool.false_or, d1])
                | refine k_of (by assumption) ?_
                | refine tr_block ?_
                | refine tr_scope ?_
                | (refine tr_skip ?_; try simp only [ex_seq, ex_block])
                | (refine tr_label ?_; try simp only [ex_seq, ex_block])
                | (refine tr_exit ?_; try simp only [ex_seq_exit, ex_block_exit, Nat.reduceEqDiff, if_true, if_false, ex_seq, ex_block, reduceCtorEq, ↓reduceIte])
                | (refine tr_ret ?_; try simp only [ex_seq_ret, ex_block_ret]))
            refine tr_cond rfl (fun ht => ?_) (fun hf => ?_)
            · repeat (first
                  | refine tr_seq_k fun _ _ => ?_
                  | (refine tr_region ?_; simp only [go_sem, List.getElem?_toArray, str_beq, reduceCtorEq, Nat.reduceEqDiff, Nat.reduceLT, Nat.reduceLeDiff, Nat.reduceAdd, Nat.reduceMul, Nat.reduceSub, Nat.reduceBEq, ↓reduceIte, bne_self_eq_false, Bool.and_false, Bool.false_and, Bool.true_or, Bool.false_or, ix, ws, hA, hS])
                  | (refine tr_draw (id := 10) follows 6 [4, 5, 6] [0, 1, 2, 3, 4, 5, 6] (by kernel_rfl) ?_; simp only [go_sem, List.getElem?_toArray, str_beq, reduceCtorEq, Nat.reduceEqDiff, Nat.reduceLT, Nat.reduceLeDiff, Nat.reduceAdd, Nat.reduceMul, Nat.reduceSub, Nat.reduceBEq, ↓reduceIte, bne_self_eq_false, Bool.and_false, Bool.false_and, Bool.true_or, Bool.false_or, ix, ws, hA, hS])
                  | (refine call_of (cX) ?_ ?_
                     · first | rfl | simp only [go_sem, List.getElem?_toArray, str_beq, reduceCtorEq, Nat.reduceEqDiff, Nat.reduceLT, Nat.reduceLeDiff, Nat.reduceAdd, Nat.reduceMul, Nat.reduceSub, Nat.reduceBEq, ↓reduceIte, bne_self_eq_false, Bool.and_false, Bool.false_and, Bool.true_or, Bool.false_or, ix, ws, hA, hS, shut_col]
                     simp only [go_sem, List.getElem?_toArray, str_beq, reduceCtorEq, Nat.reduceEqDiff, Nat.reduceLT, Nat.reduceLeDiff, Nat.reduceAdd, Nat.reduceMul, Nat.reduceSub, Nat.reduceBEq, ↓reduceIte, bne_self_eq_false, Bool.and_false, Bool.false_and, Bool.true_or, Bool.false_or, ix, ws, hA, hS])
                  | (refine call_givesW (cP) ?_; (try dsimp only); (try simp only [go_sem, List.getElem?_toArray, str_beq, reduceCtorEq, Nat.reduceEqDiff, Nat.reduceLT, Nat.reduceLeDiff, Nat.reduceAdd, Nat.reduceMul, Nat.reduceSub, Nat.reduceBEq, ↓reduceIte, bne_self_eq_false, Bool.and_false, Bool.false_and, Bool.true_or, Bool.false_or, ix, ws, hA, hS]))
                  | refine k_of (by assumption) ?_
                  | refine tr_block ?_
                  | refine tr_scope ?_
                  | (refine tr_skip ?_; try simp only [ex_seq, ex_block])
                  | (refine tr_label ?_; try simp only [ex_seq, ex_block])
                  | (refine tr_exit ?_; try simp only [ex_seq_exit, ex_block_exit, Nat.reduceEqDiff, if_true, if_false, ex_seq, ex_block, reduceCtorEq, ↓reduceIte])
                  | (refine tr_ret ?_; try simp only [ex_seq_ret, ex_block_ret]))
              exact hK (k + 1) _ _ hkl ⟨⟨rfl, rfl, rfl, rfl, rfl, trivial⟩, Keep.refl _, low1 (Nat.lt_trans Nat.zero_lt_one hp.1.lt) hp.1.lt, hp.1.wf, by rw [a3]; exact hp.2.len, by rw [a3, hp.2.hw]; exact Nat.le_refl _⟩ (by omega)
            · cases hf
          · have d1 : decide ((k : Int) < (p.clears.length : Nat)) = false := decide_eq_false (by omega)
            obtain rfl : k = p.clears.length := by omega
            repeat (first
                | refine tr_seq_k fun _ _ => ?_
                | (refine tr_region ?_; simp only [go_sem, List.getElem?_toArray, str_beq, reduceCtorEq, Nat.reduceEqDiff, Nat.reduceLT, Nat.reduceLeDiff, Nat.reduceAdd, Nat.reduceMul, Nat.reduceSub, Nat.reduceBEq, ↓reduceIte, bne_self_eq_false, Bool.and_false, Bool.false_and, Bool.true_or, Bool.false_or, d1])
                | (refine tr_draw (id := 10) follows 6 [4, 5, 6] [0, 1, 2, 3, 4, 5, 6] (by kernel_rfl) ?_; simp only [go_sem, List.getElem?_toArray, str_beq, reduceCtorEq, Nat.reduceEqDiff, Nat.reduceLT, Nat.reduceLeDiff, Nat.reduceAdd, Nat.reduceMul, Nat.reduceSub, Nat.reduceBEq, ↓reduceIte, bne_self_eq_false, Bool.and_false, Bool.false_and, Bool.true_or, Bool.false_or, d1])
                | refine k_of (by assumption) ?_
                | refine tr_block ?_
                | refine tr_scope ?_
                | (refine tr_skip ?_; try simp only [ex_seq, ex_block])
                | (refine tr_label ?_; try simp only [ex_seq, ex_block])
                | (refine tr_exit ?_; try simp only [ex_seq_exit, ex_block_exit, Nat.reduceEqDiff, if_true, if_false, ex_seq, ex_block, reduceCtorEq, ↓reduceIte])
                | (refine tr_ret ?_; try simp only [ex_seq_ret, ex_block_ret]))
            refine tr_cond rfl (fun ht => ?_) (fun hf => ?_)
            · cases ht
            · repeat (first
                  | refine tr_seq_k fun _ _ => ?_
                  | (refine tr_region ?_; simp only [go_sem, List.getElem?_toArray, str_beq, reduceCtorEq, Nat.reduceEqDiff, Nat.reduceLT, Nat.reduceLeDiff, Nat.reduceAdd, Nat.reduceMul, Nat.reduceSub, Nat.reduceBEq, ↓reduceIte, bne_self_eq_false, Bool.and_false, Bool.false_and, Bool.true_or, Bool.false_or, hb3, hbD, hbE])
                  | (refine tr_draw (id := 10) follows 6 [4, 5, 6] [0, 1, 2, 3, 4, 5, 6] (by kernel_rfl) ?_; simp only [go_sem, List.getElem?_toArray, str_beq, reduceCtorEq, Nat.reduceEqDiff, Nat.reduceLT, Nat.reduceLeDiff, Nat.reduceAdd, Nat.reduceMul, Nat.reduceSub, Nat.reduceBEq, ↓reduceIte, bne_self_eq_false, Bool.and_false, Bool.false_and, Bool.true_or, Bool.false_or, hb3, hbD, hbE])
                  | (refine call_of (cQ) ?_ ?_
                     · first | rfl | simp only [go_sem, List.getElem?_toArray, str_beq, reduceCtorEq, Nat.reduceEqDiff, Nat.reduceLT, Nat.reduceLeDiff, Nat.reduceAdd, Nat.reduceMul, Nat.reduceSub, Nat.reduceBEq, ↓reduceIte, bne_self_eq_false, Bool.and_false, Bool.false_and, Bool.true_or, Bool.false_or, hb3, hbD, hbE, shut_col]
                     simp only [go_sem, List.getElem?_toArray, str_beq, reduceCtorEq, Nat.reduceEqDiff, Nat.reduceLT, Nat.reduceLeDiff, Nat.reduceAdd, Nat.reduceMul, Nat.reduceSub, Nat.reduceBEq, ↓reduceIte, bne_self_eq_false, Bool.and_false, Bool.false_and, Bool.true_or, Bool.false_or, hb3, hbD, hbE])
                  | (refine call_of (cB) ?_ ?_
                     · first | rfl | simp only [go_sem, List.getElem?_toArray, str_beq, reduceCtorEq, Nat.reduceEqDiff, Nat.reduceLT, Nat.reduceLeDiff, Nat.reduceAdd, Nat.reduceMul, Nat.reduceSub, Nat.reduceBEq, ↓reduceIte, bne_self_eq_false, Bool.and_false, Bool.false_and, Bool.true_or, Bool.false_or, hb3, hbD, hbE, shut_col]
                     simp only [go_sem, List.getElem?_toArray, str_beq, reduceCtorEq, Nat.reduceEqDiff, Nat.reduceLT, Nat.reduceLeDiff, Nat.reduceAdd, Nat.reduceMul, Nat.reduceSub, Nat.reduceBEq, ↓reduceIte, bne_self_eq_false, Bool.and_false, Bool.false_and, Bool.true_or, Bool.false_or, hb3, hbD, hbE])
                  | (refine call_givesW (cD) ?_; (try dsimp only); (try simp only [go_sem, List.getElem?_toArray, str_beq, reduceCtorEq, Nat.reduceEqDiff, Nat.reduceLT, Nat.reduceLeDiff, Nat.reduceAdd, Nat.reduceMul, Nat.reduceSub, Nat.reduceBEq, ↓reduceIte, bne_self_eq_false, Bool.and_false, Bool.false_and, Bool.true_or, Bool.false_or, hb3, hbD, hbE]))
                  | (refine call_givesW (cE) ?_; (try dsimp only); (try simp only [go_sem, List.getElem?_toArray, str_beq, reduceCtorEq, Nat.reduceEqDiff, Nat.reduceLT, Nat.reduceLeDiff, Nat.reduceAdd, Nat.reduceMul, Nat.reduceSub, Nat.reduceBEq, ↓reduceIte, bne_self_eq_false, Bool.and_false, Bool.false_and, Bool.true_or, Bool.false_or, hb3, hbD, hbE]))
                  | refine k_of (by assumption) ?_
                  | refine tr_block ?_
                  | refine tr_scope ?_
                  | (refine tr_skip ?_; try simp only [ex_seq, ex_block])
                  | (refine tr_label ?_; try simp only [ex_seq, ex_block])
                  | (refine tr_exit ?_; try simp only [ex_seq_exit, ex_block_exit, Nat.reduceEqDiff, if_true, if_false, ex_seq, ex_block, reduceCtorEq, ↓reduceIte])
                  | (refine tr_ret ?_; try simp only [ex_seq_ret, ex_block_ret]))
              refine tr_loop_k (σ := Nat) (fun k => [(1, .ptr 0 0), (3, .ptr 1 0), (63, .c (slC ruC p.e4 p.rules)), (64, iA p.rules.length), (65, iA k)]) (fun k => ms4 k) (fun k => k ≤ p.rules.length) (fun k => p.rules.length - k) 0 (Nat.zero_le _) ⟨rfl, rfl, rfl, rfl, rfl, trivial⟩ (a4.symm) ?_
              rintro k hkk K hK
              by_cases hkl : k < p.rules.length
              · have d1 : decide ((k : Int) < (p.rules.length : Nat)) = true := decide_eq_true (by omega)
                have ix := idxRu (ex := p.e4) hkl
                have ws := wrap_succ (show k ≤ 1000000000 by have := hk.rules.1; omega)
                have cP := c4 k hkl hkl
                have hp := b4 (k + 1) hkl
                have hx := hk.rules.2 p.rules[k] (List.getElem_mem hkl)
                have hA : ∀ x : Blk, ((ms4 k).hp ++ [x])[(ms4 k).hp.length]? = some x := fun x => by simp
                have hS : ∀ x y : Blk, ((ms4 k).hp ++ [x]).set (ms4 k).hp.length y = (ms4 k).hp ++ [y] := fun x y => by simp
                generalize p.rules[k] = x at *
                have cX := rule_does x hx.1 hx.2.1 hx.2.2
                have cP : GivesW Tryd.prog 36 [.ptr 1 0, .c (.sl true 1 [.v (.string (pRule x))])] ⟨(ms4 k).hp ++ [⟨false, (ruC x).map AV.c⟩], (ms4 k).hw⟩ (.tup []) (ms4 (k + 1)) := cP
                repeat (first
                    | refine tr_seq_k fun _ _ => ?_
                    | (refine tr_region ?_; simp only [go_sem, List.getElem?_toArray, str_beq, reduceCtorEq, Nat.reduceEqDiff, Nat.reduceLT, Nat.reduceLeDiff, Nat.reduceAdd, Nat.reduceMul, Nat.reduceSub, Nat.reduceBEq, ↓reduceIte, bne_self_eq_false, Bool.and_false, Bool.false_and, Bool.true_or, Bool.false_or, d1])
                    | (refine tr_draw (id := 10) follows 6 [4, 5, 6] [0, 1, 2, 3, 4, 5, 6] (by kernel_rfl) ?_; simp only [go_sem, List.getElem?_toArray, str_beq, reduceCtorEq, Nat.reduceEqDiff, Nat.reduceLT, Nat.reduceLeDiff, Nat.reduceAdd, Nat.reduceMul, Nat.reduceSub, Nat.reduceBEq, ↓reduceIte, bne_self_eq_false, Bool.and_false, Bool.false_and, Bool.true_or, Bool.false_or, d1])
                    | refine k_of (by assumption) ?_
                    | refine tr_block ?_
                    | refine tr_scope ?_
                    | (refine tr_skip ?_; try simp only [ex_seq, ex_block])
                    | (refine tr_label ?_; try simp only [ex_seq, ex_block])
                    | (refine tr_exit ?_; try simp only [ex_seq_exit, ex_block_exit, Nat.reduceEqDiff, if_true, if_false, ex_seq, ex_block, reduceCtorEq, ↓reduceIte])
                    | (refine tr_ret ?_; try simp only [ex_seq_ret, ex_block_ret]))
                refine tr_cond rfl (fun ht => ?_) (fun hf => ?_)
                · repeat (first
                      | refine tr_seq_k fun _ _ => ?_
                      | (refine tr_region ?_; simp only [go_sem, List.getElem?_toArray, str_beq, reduceCtorEq, Nat.reduceEqDiff, Nat.reduceLT, Nat.reduceLeDiff, Nat.reduceAdd, Nat.reduceMul, Nat.reduceSub, Nat.reduceBEq, ↓reduceIte, bne_self_eq_false, Bool.and_false, Bool.false_and, Bool.true_or, Bool.false_or, ix, ws, hA, hS])
                      | (refine tr_draw (id := 10) follows 6 [4, 5, 6] [0, 1, 2, 3, 4, 5, 6] (by kernel_rfl) ?_; simp only [go_sem, List.getElem?_toArray, str_beq, reduceCtorEq, Nat.reduceEqDiff, Nat.reduceLT, Nat.reduceLeDiff, Nat.reduceAdd, Nat.reduceMul, Nat.reduceSub, Nat.reduceBEq, ↓reduceIte, bne_self_eq_false, Bool.and_false, Bool.false_and, Bool.true_or, Bool.false_or, ix, ws, hA, hS])
                      | (refine call_of (cX) ?_ ?_
                         · first | rfl | simp only [go_sem, List.getElem?_toArray, str_beq, reduceCtorEq, Nat.reduceEqDiff, Nat.reduceLT, Nat.reduceLeDiff, Nat.reduceAdd, Nat.reduceMul, Nat.reduceSub, Nat.reduceBEq, ↓reduceIte, bne_self_eq_false, Bool.and_false, Bool.false_and, Bool.true_or, Bool.false_or, ix, ws, hA, hS, shut_col]
                         simp only [go_sem, List.getElem?_toArray, str_beq, reduceCtorEq, Nat.reduceEqDiff, Nat.reduceLT, Nat.reduceLeDiff, Nat.reduceAdd, Nat.reduceMul, Nat.reduceSub, Nat.reduceBEq, ↓reduceIte, bne_self_eq_false, Bool.and_false, Bool.false_and, Bool.true_or, Bool.false_or, ix, ws, hA, hS])
                      | (refine call_givesW (cP) ?_; (try dsimp only); (try simp only [go_sem, List.getElem?_toArray, str_beq, reduceCtorEq, Nat.reduceEqDiff, Nat.reduceLT, Nat.reduceLeDiff, Nat.reduceAdd, Nat.reduceMul, Nat.reduceSub, Nat.reduceBEq, ↓reduceIte, bne_self_eq_false, Bool.and_false, Bool.false_and, Bool.true_or, Bool.false_or, ix, ws, hA, hS]))
                      | refine k_of (by assumption) ?_
                      | refine tr_block ?_
                      | refine tr_scope ?_
                      | (refine tr_skip ?_; try simp only [ex_seq, ex_block])
                      | (refine tr_label ?_; try simp only [ex_seq, ex_block])
                      | (refine tr_exit ?_; try simp only [ex_seq_exit, ex_block_exit, Nat.reduceEqDiff, if_true, if_false, ex_seq, ex_block, reduceCtorEq, ↓reduceIte])
                      | (refine tr_ret ?_; try simp only [ex_seq_ret, ex_block_ret]))
                  exact hK (k + 1) _ _ hkl ⟨⟨rfl, rfl, rfl, rfl, rfl, trivial⟩, Keep.refl _, low1 (Nat.lt_trans Nat.zero_lt_one hp.1.lt) hp.1.lt, hp.1.wf, by rw [a4]; exact hp.2.len, by rw [a4, hp.2.hw]; exact Nat.le_refl _⟩ (by omega)
                · cases hf
              · have d1 : decide ((k : Int) < (p.rules.length : Nat)) = false := decide_eq_false (by omega)
                obtain rfl : k = p.rules.length := by omega
                repeat (first
                    | refine tr_seq_k fun _ _ => ?_
                    | (refine tr_region ?_; simp only [go_sem, List.getElem?_toArray, str_beq, reduceCtorEq, Nat.reduceEqDiff, Nat.reduceLT, Nat.reduceLeDiff, Nat.reduceAdd, Nat.reduceMul, Nat.reduceSub, Nat.reduceBEq, ↓reduceIte, bne_self_eq_false, Bool.and_false, Bool.false_and, Bool.true_or, Bool.false_or, d1])
                    | (refine tr_draw (id := 10) follows 6 [4, 5, 6] [0, 1, 2, 3, 4, 5, 6] (by kernel_rfl) ?_; simp only [go_sem, List.getElem?_toArray, str_beq, reduceCtorEq, Nat.reduceEqDiff, Nat.reduceLT, Nat.reduceLeDiff, Nat.reduceAdd, Nat.reduceMul, Nat.reduceSub, Nat.reduceBEq, ↓reduceIte, bne_self_eq_false, Bool.and_false, Bool.false_and, Bool.true_or, Bool.false_or, d1])
                    | refine k_of (by assumption) ?_
                    | refine tr_block ?_
                    | refine tr_scope ?_
                    | (refine tr_skip ?_; try simp only [ex_seq, ex_block])
                    | (refine tr_label ?_; try simp only [ex_seq, ex_block])
                    | (refine tr_exit ?_; try simp only [ex_seq_exit, ex_block_exit, Nat.reduceEqDiff, if_true, if_false, ex_seq, ex_block, reduceCtorEq, ↓reduceIte])
                    | (refine tr_ret ?_; try simp only [ex_seq_ret, ex_block_ret]))
                refine tr_cond rfl (fun ht => ?_) (fun hf => ?_)
                · cases ht
                · repeat (first
                      | refine tr_seq_k fun _ _ => ?_
                      | (refine tr_region ?_; simp only [go_sem, List.getElem?_toArray, str_beq, reduceCtorEq, Nat.reduceEqDiff, Nat.reduceLT, Nat.reduceLeDiff, Nat.reduceAdd, Nat.reduceMul, Nat.reduceSub, Nat.reduceBEq, ↓reduceIte, bne_self_eq_false, Bool.and_false, Bool.false_and, Bool.true_or, Bool.false_or, hb4])
                      | (refine tr_draw (id := 10) follows 6 [4, 5, 6] [0, 1, 2, 3, 4, 5, 6] (by kernel_rfl) ?_; simp only [go_sem, List.getElem?_toArray, str_beq, reduceCtorEq, Nat.reduceEqDiff, Nat.reduceLT, Nat.reduceLeDiff, Nat.reduceAdd, Nat.reduceMul, Nat.reduceSub, Nat.reduceBEq, ↓reduceIte, bne_self_eq_false, Bool.and_false, Bool.false_and, Bool.true_or, Bool.false_or, hb4])
                      | refine k_of (by assumption) ?_
                      | refine tr_block ?_
                      | refine tr_scope ?_
                      | (refine tr_skip ?_; try simp only [ex_seq, ex_block])
                      | (refine tr_label ?_; try simp only [ex_seq, ex_block])
                      | (refine tr_exit ?_; try simp only [ex_seq_exit, ex_block_exit, Nat.reduceEqDiff, if_true, if_false, ex_seq, ex_block, reduceCtorEq, ↓reduceIte])
                      | (refine tr_ret ?_; try simp only [ex_seq_ret, ex_block_ret]))
                  refine tr_loop_k (σ := Nat) (fun k => [(1, .ptr 0 0), (3, .ptr 1 0), (75, .c (slC grC p.e5 p.grants)), (76, iA p.grants.length), (77, iA k)]) (fun k => ms5 k) (fun k => k ≤ p.grants.length) (fun k => p.grants.length - k) 0 (Nat.zero_le _) ⟨rfl, rfl, rfl, rfl, rfl, trivial⟩ (a5.symm) ?_
                  rintro k hkk K hK
                  by_cases hkl : k < p.grants.length
                  · have d1 : decide ((k : Int) < (p.grants.length : Nat)) = true := decide_eq_true (by omega)
                    have ix := idxGr (ex := p.e5) hkl
                    have ws := wrap_succ (show k ≤ 1000000000 by have := hk.grants.1; omega)
                    have cP := c5 k hkl hkl
                    have hp := b5 (k + 1) hkl
                    have hx := hk.grants.2 p.grants[k] (List.getElem_mem hkl)
                    have hA : ∀ x : Blk, ((ms5 k).hp ++ [x])[(ms5 k).hp.length]? = some x := fun x => by simp
                    have hS : ∀ x y : Blk, ((ms5 k).hp ++ [x]).set (ms5 k).hp.length y = (ms5 k).hp ++ [y] := fun x y => by simp
                    generalize p.grants[k] = x at *
                    have cX := grant_does x hx.1 hx.2.1 hx.2.2.1 hx.2.2.2
                    have cP : GivesW Tryd.prog 36 [.ptr 1 0, .c (.sl true 1 [.v (.string (pGrant x))])] ⟨(ms5 k).hp ++ [⟨false, (grC x).map AV.c⟩], (ms5 k).hw⟩ (.tup []) (ms5 (k + 1)) := cP
                    repeat (first
                        | refine tr_seq_k fun _ _ => ?_
                        | (refine tr_region ?_; simp only [go_sem, List.getElem?_toArray, str_beq, reduceCtorEq, Nat.reduceEqDiff, Nat.reduceLT, Nat.reduceLeDiff, Nat.reduceAdd, Nat.reduceMul, Nat.reduceSub, Nat.reduceBEq, ↓reduceIte, bne_self_eq_false, Bool.and_false, Bool.false_and, Bool.true_or, Bool.false_or, d1])
                        | (refine tr_draw (id := 10) follows 6 [4, 5, 6] [0, 1, 2, 3, 4, 5, 6] (by kernel_rfl) ?_; simp only [go_sem, List.getElem?_toArray, str_beq, reduceCtorEq, Nat.reduceEqDiff, Nat.reduceLT, Nat.reduceLeDiff, Nat.reduceAdd, Nat.reduceMul, Nat.reduceSub, Nat.reduceBEq, ↓reduceIte, bne_self_eq_false, Bool.and_false, Bool.false_and, Bool.true_or, Bool.false_or, d1])
                        | refine k_of (by assumption) ?_
                        | refine tr_block ?_
                        | refine tr_scope ?_
                        | (refine tr_skip ?_; try simp only [ex_seq, ex_block])
                        | (refine tr_label ?_; try simp only [ex_seq, ex_block])
                        | (refine tr_exit ?_; try simp only [ex_seq_exit, ex_block_exit, Nat.reduceEqDiff, if_true, if_false, ex_seq, ex_block, reduceCtorEq, ↓reduceIte])
                        | (refine tr_ret ?_; try simp only [ex_seq_ret, ex_block_ret]))
                    refine tr_cond rfl (fun ht => ?_) (fun hf => ?_)
                    · repeat (first
                          | refine tr_seq_k fun _ _ => ?_
                          | (refine tr_region ?_; simp only [go_sem, List.getElem?_toArray, str_beq, reduceCtorEq, Nat.reduceEqDiff, Nat.reduceLT, Nat.reduceLeDiff, Nat.reduceAdd, Nat.reduceMul, Nat.reduceSub, Nat.reduceBEq, ↓reduceIte, bne_self_eq_false, Bool.and_false, Bool.false_and, Bool.true_or, Bool.false_or, ix, ws, hA, hS])
                          | (refine tr_draw (id := 10) follows 6 [4, 5, 6] [0, 1, 2, 3, 4, 5, 6] (by kernel_rfl) ?_; simp only [go_sem, List.getElem?_toArray, str_beq, reduceCtorEq, Nat.reduceEqDiff, Nat.reduceLT, Nat.reduceLeDiff, Nat.reduceAdd, Nat.reduceMul, Nat.reduceSub, Nat.reduceBEq, ↓reduceIte, bne_self_eq_false, Bool.and_false, Bool.false_and, Bool.true_or, Bool.false_or, ix, ws, hA, hS])
                          | (refine call_of (cX) ?_ ?_
                             · first | rfl | simp only [go_sem, List.getElem?_toArray, str_beq, reduceCtorEq, Nat.reduceEqDiff, Nat.reduceLT, Nat.reduceLeDiff, Nat.reduceAdd, Nat.reduceMul, Nat.reduceSub, Nat.reduceBEq, ↓reduceIte, bne_self_eq_false, Bool.and_false, Bool.false_and, Bool.true_or, Bool.false_or, ix, ws, hA, hS, shut_col]
                             simp only [go_sem, List.getElem?_toArray, str_beq, reduceCtorEq, Nat.reduceEqDiff, Nat.reduceLT, Nat.reduceLeDiff, Nat.reduceAdd, Nat.reduceMul, Nat.reduceSub, Nat.reduceBEq, ↓reduceIte, bne_self_eq_false, Bool.and_false, Bool.false_and, Bool.true_or, Bool.false_or, ix, ws, hA, hS])
                          | (refine call_givesW (cP) ?_; (try dsimp only); (try simp only [go_sem, List.getElem?_toArray, str_beq, reduceCtorEq, Nat.reduceEqDiff, Nat.reduceLT, Nat.reduceLeDiff, Nat.reduceAdd, Nat.reduceMul, Nat.reduceSub, Nat.reduceBEq, ↓reduceIte, bne_self_eq_false, Bool.and_false, Bool.false_and, Bool.true_or, Bool.false_or, ix, ws, hA, hS]))
                          | refine k_of (by assumption) ?_
                          | refine tr_block ?_
                          | refine tr_scope ?_
                          | (refine tr_skip ?_; try simp only [ex_seq, ex_block])
                          | (refine tr_label ?_; try simp only [ex_seq, ex_block])
                          | (refine tr_exit ?_; try simp only [ex_seq_exit, ex_block_exit, Nat.reduceEqDiff, if_true, if_false, ex_seq, ex_block, reduceCtorEq, ↓reduceIte])
                          | (refine tr_ret ?_; try simp only [ex_seq_ret, ex_block_ret]))
                      exact hK (k + 1) _ _ hkl ⟨⟨rfl, rfl, rfl, rfl, rfl, trivial⟩, Keep.refl _, low1 (Nat.lt_trans Nat.zero_lt_one hp.1.lt) hp.1.lt, hp.1.wf, by rw [a5]; exact hp.2.len, by rw [a5, hp.2.hw]; exact Nat.le_refl _⟩ (by omega)
                    · cases hf
                  · have d1 : decide ((k : Int) < (p.grants.length : Nat)) = false := decide_eq_false (by omega)
                    obtain rfl : k = p.grants.length := by omega
                    repeat (first
                        | refine tr_seq_k fun _ _ => ?_
                        | (refine tr_region ?_; simp only [go_sem, List.getElem?_toArray, str_beq, reduceCtorEq, Nat.reduceEqDiff, Nat.reduceLT, Nat.reduceLeDiff, Nat.reduceAdd, Nat.reduceMul, Nat.reduceSub, Nat.reduceBEq, ↓reduceIte, bne_self_eq_false, Bool.and_false, Bool.false_and, Bool.true_or, Bool.false_or, d1])
                        | (refine tr_draw (id := 10) follows 6 [4, 5, 6] [0, 1, 2, 3, 4, 5, 6] (by kernel_rfl) ?_; simp only [go_sem, List.getElem?_toArray, str_beq, reduceCtorEq, Nat.reduceEqDiff, Nat.reduceLT, Nat.reduceLeDiff, Nat.reduceAdd, Nat.reduceMul, Nat.reduceSub, Nat.reduceBEq, ↓reduceIte, bne_self_eq_false, Bool.and_false, Bool.false_and, Bool.true_or, Bool.false_or, d1])
                        | refine k_of (by assumption) ?_
                        | refine tr_block ?_
                        | refine tr_scope ?_
                        | (refine tr_skip ?_; try simp only [ex_seq, ex_block])
                        | (refine tr_label ?_; try simp only [ex_seq, ex_block])
                        | (refine tr_exit ?_; try simp only [ex_seq_exit, ex_block_exit, Nat.reduceEqDiff, if_true, if_false, ex_seq, ex_block, reduceCtorEq, ↓reduceIte])
                        | (refine tr_ret ?_; try simp only [ex_seq_ret, ex_block_ret]))
                    refine tr_cond rfl (fun ht => ?_) (fun hf => ?_)
                    · cases ht
                    · repeat (first
                          | refine tr_seq_k fun _ _ => ?_
                          | (refine tr_region ?_; simp only [go_sem, List.getElem?_toArray, str_beq, reduceCtorEq, Nat.reduceEqDiff, Nat.reduceLT, Nat.reduceLeDiff, Nat.reduceAdd, Nat.reduceMul, Nat.reduceSub, Nat.reduceBEq, ↓reduceIte, bne_self_eq_false, Bool.and_false, Bool.false_and, Bool.true_or, Bool.false_or])
                          | (refine tr_draw (id := 10) follows 6 [4, 5, 6] [0, 1, 2, 3, 4, 5, 6] (by kernel_rfl) ?_; simp only [go_sem, List.getElem?_toArray, str_beq, reduceCtorEq, Nat.reduceEqDiff, Nat.reduceLT, Nat.reduceLeDiff, Nat.reduceAdd, Nat.reduceMul, Nat.reduceSub, Nat.reduceBEq, ↓reduceIte, bne_self_eq_false, Bool.and_false, Bool.false_and, Bool.true_or, Bool.false_or])
                          | (refine call_givesW (cH) ?_; (try dsimp only); (try simp only [go_sem, List.getElem?_toArray, str_beq, reduceCtorEq, Nat.reduceEqDiff, Nat.reduceLT, Nat.reduceLeDiff, Nat.reduceAdd, Nat.reduceMul, Nat.reduceSub, Nat.reduceBEq, ↓reduceIte, bne_self_eq_false, Bool.and_false, Bool.false_and, Bool.true_or, Bool.false_or]))
                          | refine k_of (by assumption) ?_
                          | refine tr_block ?_
                          | refine tr_scope ?_
                          | (refine tr_skip ?_; try simp only [ex_seq, ex_block])
                          | (refine tr_label ?_; try simp only [ex_seq, ex_block])
                          | (refine tr_exit ?_; try simp only [ex_seq_exit, ex_block_exit, Nat.reduceEqDiff, if_true, if_false, ex_seq, ex_block, reduceCtorEq, ↓reduceIte])
                          | (refine tr_ret ?_; try simp only [ex_seq_ret, ex_block_ret]))
                      refine (hQ _ _ [sA (pPolicy p)] ?_ (fun m => ?_)).2 <;> simp only [go_sem, List.getElem?_toArray, str_beq, reduceCtorEq, Nat.reduceEqDiff, Nat.reduceLT, Nat.reduceLeDiff, Nat.reduceAdd, Nat.reduceMul, Nat.reduceSub, Nat.reduceBEq, ↓reduceIte, bne_self_eq_false, Bool.and_false, Bool.false_and, Bool.true_or, Bool.false_or, Tryd.f10,]
end Go.Proofs.YtaeehadibckcjaaDoor

/-
  Chapters 7 and 11: the statement VariantCalls: the walk on abstract values.
-/
namespace Go.Proofs.YtaeehadibckcjaaDoor
open Go.Vs Go.Vs.Ab
set_option maxRecDepth 100000
set_option maxHeartbeats 4000000
theorem said_does (a : Atm) (hS : AtSz a) : Does Tryd.prog 55 [atA a] (fun m => (sA (psaid a), m)) := by
  have h4 := a.count_le
  have cc := count_does a
  refine does_of' Tryd.func55 rfl (by kernel_rfl) rfl Tryd.ntmps55 rfl rfl fun Q hQ => ?_
  repeat (first
      | refine tr_seq_k fun _ _ => ?_
      | (refine tr_region ?_; simp only [go_sem, List.getElem?_toArray, str_beq, reduceCtorEq, Nat.reduceEqDiff, Nat.reduceLT, Nat.reduceLeDiff, Nat.reduceAdd, Nat.reduceMul, Nat.reduceSub, Nat.reduceBEq, ↓reduceIte, bne_self_eq_false, Bool.and_false, Bool.false_and, Bool.true_or, Bool.false_or])
      | refine k_of (by assumption) ?_
      | refine tr_block ?_
      | refine tr_scope ?_
      | (refine tr_skip ?_; try simp only [ex_seq, ex_block])
      | (refine tr_label ?_; try simp only [ex_seq, ex_block])
      | (refine tr_exit ?_; try simp only [ex_seq_exit, ex_block_exit, Nat.reduceEqDiff, if_true, if_false, ex_seq, ex_block, reduceCtorEq, ↓reduceIte])
      | (refine tr_ret ?_; try simp only [ex_seq_ret, ex_block_ret]))
  refine tr_loop_k (σ := Nat) (fun k => [(1, .ptr 0 0), (3, sA (psaidK a k)), (4, iA k)]) (fun k => ⟨[⟨false, ([.c (.v (.string a.says)), .c (.v (.string a.pred)), .c (.v (.int .i64 a.n)), .c (.v (.bool a.a0.v)), .c (.v (.string a.a0.name)), .c (.v (.bool a.a1.v)), .c (.v (.string a.a1.name)), .c (.v (.bool a.a2.v)), .c (.v (.string a.a2.name)), .c (.v (.bool a.a3.v)), .c (.v (.string a.a3.name))] : List AV)⟩], []⟩)
    (fun k => k ≤ a.count) (fun k => a.count - k) 0 (Nat.zero_le _) ⟨rfl, rfl, rfl, trivial⟩ rfl ?_
  rintro k hk K hK
  have hsz := psaidK_size hS k
  have hk2 : k * 1000002 ≤ 4 * 1000002 := Nat.mul_le_mul_right _ (by omega)
  have hsz : (psaidK a k).size ≤ 7000000 := by omega
  clear hk2
  repeat (first
      | refine tr_seq_k fun _ _ => ?_
      | (refine tr_region ?_; simp only [go_sem, List.getElem?_toArray, str_beq, reduceCtorEq, Nat.reduceEqDiff, Nat.reduceLT, Nat.reduceLeDiff, Nat.reduceAdd, Nat.reduceMul, Nat.reduceSub, Nat.reduceBEq, ↓reduceIte, bne_self_eq_false, Bool.and_false, Bool.false_and, Bool.true_or, Bool.false_or])
      | (refine call_of (cc) ?_ ?_
         · first | rfl | simp only [go_sem, List.getElem?_toArray, str_beq, reduceCtorEq, Nat.reduceEqDiff, Nat.reduceLT, Nat.reduceLeDiff, Nat.reduceAdd, Nat.reduceMul, Nat.reduceSub, Nat.reduceBEq, ↓reduceIte, bne_self_eq_false, Bool.and_false, Bool.false_and, Bool.true_or, Bool.false_or, shut_col]
         simp only [go_sem, List.getElem?_toArray, str_beq, reduceCtorEq, Nat.reduceEqDiff, Nat.reduceLT, Nat.reduceLeDiff, Nat.reduceAdd, Nat.reduceMul, Nat.reduceSub, Nat.reduceBEq, ↓reduceIte, bne_self_eq_false, Bool.and_false, Bool.false_and, Bool.true_or, Bool.false_or])
      | refine k_of (by assumption) ?_
      | refine tr_block ?_
      | refine tr_scope ?_
      | (refine tr_skip ?_; try simp only [ex_seq, ex_block])
      | (refine tr_label ?_; try simp only [ex_seq, ex_block])
      | (refine tr_exit ?_; try simp only [ex_seq_exit, ex_block_exit, Nat.reduceEqDiff, if_true, if_false, ex_seq, ex_block, reduceCtorEq, ↓reduceIte])
      | (refine tr_ret ?_; try simp only [ex_seq_ret, ex_block_ret]))
  refine tr_cond rfl (fun ht => ?_) (fun hf => ?_)
  · have hlt : k < a.count := by simpa using ht
    have hk4 : k < 4 := by omega
    have ws := wrap_succ (show k ≤ 1000000000 by omega)
    have hs := atS a hk4
    have hn := hS.2.2 k
    cases k with
    | zero =>
      have e1 := sadd (a := psaidK a 0) (b := tOpen) (n := 8000000) (by have : tOpen.size = 1 := rfl; omega) (by decide)
      have e2 := sadd (a := psaidK a 0 ++ tOpen) (b := (a.arg 0).name) (n := 9000000) (by have : tOpen.size = 1 := rfl; simp only [ByteArray.size_append]; omega) (by decide)
      repeat (first
          | refine tr_seq_k fun _ _ => ?_
          | (refine tr_region ?_; simp only [go_sem, List.getElem?_toArray, str_beq, reduceCtorEq, Nat.reduceEqDiff, Nat.reduceLT, Nat.reduceLeDiff, Nat.reduceAdd, Nat.reduceMul, Nat.reduceSub, Nat.reduceBEq, ↓reduceIte, bne_self_eq_false, Bool.and_false, Bool.false_and, Bool.true_or, Bool.false_or, show decide (((0 : Nat) : Int) = 0) = true from rfl])
          | refine k_of (by assumption) ?_
          | refine tr_block ?_
          | refine tr_scope ?_
          | (refine tr_skip ?_; try simp only [ex_seq, ex_block])
          | (refine tr_label ?_; try simp only [ex_seq, ex_block])
          | (refine tr_exit ?_; try simp only [ex_seq_exit, ex_block_exit, Nat.reduceEqDiff, if_true, if_false, ex_seq, ex_block, reduceCtorEq, ↓reduceIte])
          | (refine tr_ret ?_; try simp only [ex_seq_ret, ex_block_ret]))
      refine tr_cond rfl (fun ht => ?_) (fun hf => ?_)
      · repeat (first
            | refine tr_seq_k fun _ _ => ?_
            | (refine tr_region ?_; simp only [go_sem, List.getElem?_toArray, str_beq, reduceCtorEq, Nat.reduceEqDiff, Nat.reduceLT, Nat.reduceLeDiff, Nat.reduceAdd, Nat.reduceMul, Nat.reduceSub, Nat.reduceBEq, ↓reduceIte, bne_self_eq_false, Bool.and_false, Bool.false_and, Bool.true_or, Bool.false_or, e1, e2, arrT hk4, hs, ws])
            | refine k_of (by assumption) ?_
            | refine tr_block ?_
            | refine tr_scope ?_
            | (refine tr_skip ?_; try simp only [ex_seq, ex_block])
            | (refine tr_label ?_; try simp only [ex_seq, ex_block])
            | (refine tr_exit ?_; try simp only [ex_seq_exit, ex_block_exit, Nat.reduceEqDiff, if_true, if_false, ex_seq, ex_block, reduceCtorEq, ↓reduceIte])
            | (refine tr_ret ?_; try simp only [ex_seq_ret, ex_block_ret]))
        exact hK (0 + 1) _ _ hlt ⟨⟨rfl, rfl, rfl, trivial⟩, Keep.refl _, rfl, rfl, Nat.le_refl _, Nat.le_refl _⟩ (by omega)
      · cases hf
    | succ k =>
      have e1 := sadd (a := psaidK a (k + 1)) (b := tComma) (n := 8000000) (by have : tComma.size = 2 := rfl; omega) (by decide)
      have e2 := sadd (a := psaidK a (k + 1) ++ tComma) (b := (a.arg (k + 1)).name) (n := 9000000) (by have : tComma.size = 2 := rfl; simp only [ByteArray.size_append]; omega) (by decide)
      have h0 : decide (((k + 1 : Nat) : Int) = 0) = false := decide_eq_false (by omega)
      repeat (first
          | refine tr_seq_k fun _ _ => ?_
          | (refine tr_region ?_; simp only [go_sem, List.getElem?_toArray, str_beq, reduceCtorEq, Nat.reduceEqDiff, Nat.reduceLT, Nat.reduceLeDiff, Nat.reduceAdd, Nat.reduceMul, Nat.reduceSub, Nat.reduceBEq, ↓reduceIte, bne_self_eq_false, Bool.and_false, Bool.false_and, Bool.true_or, Bool.false_or, h0])
          | refine k_of (by assumption) ?_
          | refine tr_block ?_
          | refine tr_scope ?_
          | (refine tr_skip ?_; try simp only [ex_seq, ex_block])
          | (refine tr_label ?_; try simp only [ex_seq, ex_block])
          | (refine tr_exit ?_; try simp only [ex_seq_exit, ex_block_exit, Nat.reduceEqDiff, if_true, if_false, ex_seq, ex_block, reduceCtorEq, ↓reduceIte])
          | (refine tr_ret ?_; try simp only [ex_seq_ret, ex_block_ret]))
      refine tr_cond rfl (fun ht => ?_) (fun hf => ?_)
      · cases ht
      · repeat (first
            | refine tr_seq_k fun _ _ => ?_
            | (refine tr_region ?_; simp only [go_sem, List.getElem?_toArray, str_beq, reduceCtorEq, Nat.reduceEqDiff, Nat.reduceLT, Nat.reduceLeDiff, Nat.reduceAdd, Nat.reduceMul, Nat.reduceSub, Nat.reduceBEq, ↓reduceIte, bne_self_eq_false, Bool.and_false, Bool.false_and, Bool.true_or, Bool.false_or, e1, e2, arrT hk4, hs, ws])
            | refine k_of (by assumption) ?_
            | refine tr_block ?_
            | refine tr_scope ?_
            | (refine tr_skip ?_; try simp only [ex_seq, ex_block])
            | (refine tr_label ?_; try simp only [ex_seq, ex_block])
            | (refine tr_exit ?_; try simp only [ex_seq_exit, ex_block_exit, Nat.reduceEqDiff, if_true, if_false, ex_seq, ex_block, reduceCtorEq, ↓reduceIte])
            | (refine tr_ret ?_; try simp only [ex_seq_ret, ex_block_ret]))
        exact hK (k + 1 + 1) _ _ hlt ⟨⟨rfl, rfl, rfl, trivial⟩, Keep.refl _, rfl, rfl, Nat.le_refl _, Nat.le_refl _⟩ (by omega)
  · have hkl : k = a.count := by
      have := of_decide_eq_false hf
      omega
    subst hkl
    by_cases h0 : 0 < a.count
    · have hd : decide ((a.count : Int) > 0) = true := decide_eq_true (by omega)
      have hd' : decide ((0 : Int) < a.count) = true := decide_eq_true (by omega)
      have e1 := sadd (a := psaidK a a.count) (b := tShut) (n := 8000000) (by have : tShut.size = 1 := rfl; omega) (by decide)
      repeat (first
          | refine tr_seq_k fun _ _ => ?_
          | (refine tr_region ?_; simp only [go_sem, List.getElem?_toArray, str_beq, reduceCtorEq, Nat.reduceEqDiff, Nat.reduceLT, Nat.reduceLeDiff, Nat.reduceAdd, Nat.reduceMul, Nat.reduceSub, Nat.reduceBEq, ↓reduceIte, bne_self_eq_false, Bool.and_false, Bool.false_and, Bool.true_or, Bool.false_or, hd, hd'])
          | (refine call_of (cc) ?_ ?_
             · first | rfl | simp only [go_sem, List.getElem?_toArray, str_beq, reduceCtorEq, Nat.reduceEqDiff, Nat.reduceLT, Nat.reduceLeDiff, Nat.reduceAdd, Nat.reduceMul, Nat.reduceSub, Nat.reduceBEq, ↓reduceIte, bne_self_eq_false, Bool.and_false, Bool.false_and, Bool.true_or, Bool.false_or, hd, hd', shut_col]
             simp only [go_sem, List.getElem?_toArray, str_beq, reduceCtorEq, Nat.reduceEqDiff, Nat.reduceLT, Nat.reduceLeDiff, Nat.reduceAdd, Nat.reduceMul, Nat.reduceSub, Nat.reduceBEq, ↓reduceIte, bne_self_eq_false, Bool.and_false, Bool.false_and, Bool.true_or, Bool.false_or, hd, hd'])
          | refine k_of (by assumption) ?_
          | refine tr_block ?_
          | refine tr_scope ?_
          | (refine tr_skip ?_; try simp only [ex_seq, ex_block])
          | (refine tr_label ?_; try simp only [ex_seq, ex_block])
          | (refine tr_exit ?_; try simp only [ex_seq_exit, ex_block_exit, Nat.reduceEqDiff, if_true, if_false, ex_seq, ex_block, reduceCtorEq, ↓reduceIte])
          | (refine tr_ret ?_; try simp only [ex_seq_ret, ex_block_ret]))
      refine tr_cond rfl (fun ht => ?_) (fun hf => ?_)
      · repeat (first
            | refine tr_seq_k fun _ _ => ?_
            | (refine tr_region ?_; simp only [go_sem, List.getElem?_toArray, str_beq, reduceCtorEq, Nat.reduceEqDiff, Nat.reduceLT, Nat.reduceLeDiff, Nat.reduceAdd, Nat.reduceMul, Nat.reduceSub, Nat.reduceBEq, ↓reduceIte, bne_self_eq_false, Bool.and_false, Bool.false_and, Bool.true_or, Bool.false_or, e1])
            | refine k_of (by assumption) ?_
            | refine tr_block ?_
            | refine tr_scope ?_
            | (refine tr_skip ?_; try simp only [ex_seq, ex_block])
            | (refine tr_label ?_; try simp only [ex_seq, ex_block])
            | (refine tr_exit ?_; try simp only [ex_seq_exit, ex_block_exit, Nat.reduceEqDiff, if_true, if_false, ex_seq, ex_block, reduceCtorEq, ↓reduceIte])
            | (refine tr_ret ?_; try simp only [ex_seq_ret, ex_block_ret]))
        refine (hQ _ _ [sA (psaidK a a.count ++ tShut)] ?_ (fun m => by unfold psaid; rw [if_pos h0]; rfl)).2 <;> simp only [go_sem, List.getElem?_toArray, str_beq, reduceCtorEq, Nat.reduceEqDiff, Nat.reduceLT, Nat.reduceLeDiff, Nat.reduceAdd, Nat.reduceMul, Nat.reduceSub, Nat.reduceBEq, ↓reduceIte, bne_self_eq_false, Bool.and_false, Bool.false_and, Bool.true_or, Bool.false_or, Tryd.f55]
      · cases hf
    · have hd : decide ((a.count : Int) > 0) = false := decide_eq_false (by omega)
      have hd' : decide ((0 : Int) < a.count) = false := decide_eq_false (by omega)
      have hz : a.count = 0 := by omega
      repeat (first
          | refine tr_seq_k fun _ _ => ?_
          | (refine tr_region ?_; simp only [go_sem, List.getElem?_toArray, str_beq, reduceCtorEq, Nat.reduceEqDiff, Nat.reduceLT, Nat.reduceLeDiff, Nat.reduceAdd, Nat.reduceMul, Nat.reduceSub, Nat.reduceBEq, ↓reduceIte, bne_self_eq_false, Bool.and_false, Bool.false_and, Bool.true_or, Bool.false_or, hd, hd'])
          | (refine call_of (cc) ?_ ?_
             · first | rfl | simp only [go_sem, List.getElem?_toArray, str_beq, reduceCtorEq, Nat.reduceEqDiff, Nat.reduceLT, Nat.reduceLeDiff, Nat.reduceAdd, Nat.reduceMul, Nat.reduceSub, Nat.reduceBEq, ↓reduceIte, bne_self_eq_false, Bool.and_false, Bool.false_and, Bool.true_or, Bool.false_or, hd, hd', shut_col]
             simp only [go_sem, List.getElem?_toArray, str_beq, reduceCtorEq, Nat.reduceEqDiff, Nat.reduceLT, Nat.reduceLeDiff, Nat.reduceAdd, Nat.reduceMul, Nat.reduceSub, Nat.reduceBEq, ↓reduceIte, bne_self_eq_false, Bool.and_false, Bool.false_and, Bool.true_or, Bool.false_or, hd, hd'])
          | refine k_of (by assumption) ?_
          | refine tr_block ?_
          | refine tr_scope ?_
          | (refine tr_skip ?_; try simp only [ex_seq, ex_block])
          | (refine tr_label ?_; try simp only [ex_seq, ex_block])
          | (refine tr_exit ?_; try simp only [ex_seq_exit, ex_block_exit, Nat.reduceEqDiff, if_true, if_false, ex_seq, ex_block, reduceCtorEq, ↓reduceIte])
          | (refine tr_ret ?_; try simp only [ex_seq_ret, ex_block_ret]))
      refine tr_cond rfl (fun ht => ?_) (fun hf => ?_)
      · cases ht
      · repeat (first
            | refine tr_seq_k fun _ _ => ?_
            | (refine tr_region ?_; simp only [go_sem, List.getElem?_toArray, str_beq, reduceCtorEq, Nat.reduceEqDiff, Nat.reduceLT, Nat.reduceLeDiff, Nat.reduceAdd, Nat.reduceMul, Nat.reduceSub, Nat.reduceBEq, ↓reduceIte, bne_self_eq_false, Bool.and_false, Bool.false_and, Bool.true_or, Bool.false_or])
            | refine k_of (by assumption) ?_
            | refine tr_block ?_
            | refine tr_scope ?_
            | (refine tr_skip ?_; try simp only [ex_seq, ex_block])
            | (refine tr_label ?_; try simp only [ex_seq, ex_block])
            | (refine tr_exit ?_; try simp only [ex_seq_exit, ex_block_exit, Nat.reduceEqDiff, if_true, if_false, ex_seq, ex_block, reduceCtorEq, ↓reduceIte])
            | (refine tr_ret ?_; try simp only [ex_seq_ret, ex_block_ret]))
        refine (hQ _ _ [sA (psaidK a a.count)] ?_ (fun m => by unfold psaid; rw [if_neg h0, hz]; rfl)).2 <;> simp only [go_sem, List.getElem?_toArray, str_beq, reduceCtorEq, Nat.reduceEqDiff, Nat.reduceLT, Nat.reduceLeDiff, Nat.reduceAdd, Nat.reduceMul, Nat.reduceSub, Nat.reduceBEq, ↓reduceIte, bne_self_eq_false, Bool.and_false, Bool.false_and, Bool.true_or, Bool.false_or, Tryd.f55]
theorem r3text_does (a : Atm) (hS : AtSz a) : Does Tryd.prog 53 [atA a] (fun m => (sA (ptext a), m)) := by
  have h4 := a.count_le
  have cs := said_does a hS
  have h1 := psaidK_size hS a.count
  have h2 : a.count * 1000002 ≤ 4 * 1000002 := Nat.mul_le_mul_right _ h4
  have h3 : (psaid a).size ≤ 8000000 := by
    unfold psaid
    split
    · have : tShut.size = 1 := rfl
      simp only [ByteArray.size_append]; omega
    · have := hS.2.1; omega
  have e1 := sadd (a := a.says) (b := tSays) (n := 2000000) (by have := hS.1; have : tSays.size = 6 := rfl; omega) (by decide)
  have e2 := sadd (a := a.says ++ tSays) (b := psaid a) (n := 20000000) (by have := hS.1; have : tSays.size = 6 := rfl; rw [ByteArray.size_append]; omega) (by decide)
  refine does_of' Tryd.func53 rfl (by kernel_rfl) rfl Tryd.ntmps53 rfl rfl fun Q hQ => ?_
  repeat (first
      | refine tr_seq_k fun _ _ => ?_
      | (refine tr_region ?_; simp only [go_sem, List.getElem?_toArray, str_beq, reduceCtorEq, Nat.reduceEqDiff, Nat.reduceLT, Nat.reduceLeDiff, Nat.reduceAdd, Nat.reduceMul, Nat.reduceSub, Nat.reduceBEq, ↓reduceIte, bne_self_eq_false, Bool.and_false, Bool.false_and, Bool.true_or, Bool.false_or, e1, e2])
      | (refine tr_draw (id := 1) follows 10000 [4] [0, 1, 2, 3, 4, 5, 6] (by kernel_rfl) ?_; simp only [go_sem, List.getElem?_toArray, str_beq, reduceCtorEq, Nat.reduceEqDiff, Nat.reduceLT, Nat.reduceLeDiff, Nat.reduceAdd, Nat.reduceMul, Nat.reduceSub, Nat.reduceBEq, ↓reduceIte, bne_self_eq_false, Bool.and_false, Bool.false_and, Bool.true_or, Bool.false_or, e1, e2])
      | (refine call_of (cs) ?_ ?_
         · first | rfl | simp only [go_sem, List.getElem?_toArray, str_beq, reduceCtorEq, Nat.reduceEqDiff, Nat.reduceLT, Nat.reduceLeDiff, Nat.reduceAdd, Nat.reduceMul, Nat.reduceSub, Nat.reduceBEq, ↓reduceIte, bne_self_eq_false, Bool.and_false, Bool.false_and, Bool.true_or, Bool.false_or, e1, e2, shut_col]
         simp only [go_sem, List.getElem?_toArray, str_beq, reduceCtorEq, Nat.reduceEqDiff, Nat.reduceLT, Nat.reduceLeDiff, Nat.reduceAdd, Nat.reduceMul, Nat.reduceSub, Nat.reduceBEq, ↓reduceIte, bne_self_eq_false, Bool.and_false, Bool.false_and, Bool.true_or, Bool.false_or, e1, e2])
      | refine k_of (by assumption) ?_
      | refine tr_block ?_
      | refine tr_scope ?_
      | (refine tr_skip ?_; try simp only [ex_seq, ex_block])
      | (refine tr_label ?_; try simp only [ex_seq, ex_block])
      | (refine tr_exit ?_; try simp only [ex_seq_exit, ex_block_exit, Nat.reduceEqDiff, if_true, if_false, ex_seq, ex_block, reduceCtorEq, ↓reduceIte])
      | (refine tr_ret ?_; try simp only [ex_seq_ret, ex_block_ret]))
  refine (hQ _ _ [sA ((a.says ++ tSays) ++ psaid a)] ?_ (fun m => rfl)).2 <;> simp only [go_sem, List.getElem?_toArray, str_beq, reduceCtorEq, Nat.reduceEqDiff, Nat.reduceLT, Nat.reduceLeDiff, Nat.reduceAdd, Nat.reduceMul, Nat.reduceSub, Nat.reduceBEq, ↓reduceIte, bne_self_eq_false, Bool.and_false, Bool.false_and, Bool.true_or, Bool.false_or, Tryd.f53]
end Go.Proofs.YtaeehadibckcjaaDoor

/-
  Chapter 11: the document's answer: numbers, bodies, rules, grants, clears, goals.
-/
namespace Go.Proofs.YtaeehadibckcjaaDoor
open Go.RowKit Go.Vs Go.Vs.Ab
set_option maxRecDepth 100000
set_option maxHeartbeats 4000000
def dgB (n : Nat) : ByteArray := ⟨(Lib.decDigits n).toArray⟩
abbrev u64A (n : Nat) : AV := .c (.v (.int .u64 (n : Int)))
abbrev tDgs : ByteArray := ⟨#[48, 49, 50, 51, 52, 53, 54, 55, 56, 57]⟩
theorem bin_urem (t : TypeId) (x y : Operand) (a b : Int) (h : b ≠ 0) : pureVal Tryd.prog (do eqGuard .rem t x y (.int .u64 a) (.int .u64 b); binOp .rem t (.int .u64 a) (.int .u64 b)) = some (.int .u64 (a.tmod b)) := by
  show pureVal _ (Op.intDiv .rem .u64 a b) = _
  unfold Op.intDiv
  rw [if_neg h]
  rfl
theorem bin_uquo (t : TypeId) (x y : Operand) (a b : Int) (h : b ≠ 0) : pureVal Tryd.prog (do eqGuard .quo t x y (.int .u64 a) (.int .u64 b); binOp .quo t (.int .u64 a) (.int .u64 b)) = some (.int .u64 (IntKind.u64.wrap (a.tdiv b))) := by
  show pureVal _ (Op.intDiv .quo .u64 a b) = _
  unfold Op.intDiv
  rw [if_neg h]
  rfl
theorem ten_ne : ((10 : Int) ≠ 0) := by decide
attribute [go_sem] bin_urem bin_uquo
theorem conv_u (n : Int) : pureVal Tryd.prog (convert 3 116 (.int .i64 n)) = some (.int .u64 (IntKind.u64.wrap n)) := by
  unfold convert
  simp [pv_bind, pv_under Tryd.underlying3, pv_under Tryd.underlying116]
  rfl
theorem cut_dig (d : Nat) (h : d < 10) : pureVal Tryd.prog (Instr.sliceAt 9 (.string tDgs) (some (.int .u64 (d : Int))) (some (.int .u64 ((d + 1 : Nat) : Int))) none) = some (.string ⟨#[UInt8.ofNat (48 + d)]⟩) := by
  obtain rfl | rfl | rfl | rfl | rfl | rfl | rfl | rfl | rfl | rfl : d = 0 ∨ d = 1 ∨ d = 2 ∨ d = 3 ∨ d = 4 ∨ d = 5 ∨ d = 6 ∨ d = 7 ∨ d = 8 ∨ d = 9 := by omega
  all_goals kernel_rfl
theorem dg_len : ∀ (k n : Nat), n < 10 ^ (k + 1) → (Lib.decDigits n).length ≤ k + 1
  | 0, n, h => by
    rw [Lib.decDigits, dif_pos (by simpa using h)]
    exact Nat.le_refl _
  | k + 1, n, h => by
    rw [Lib.decDigits]
    split
    · simp
    · rw [List.length_append]
      have h1 : n / 10 < 10 ^ (k + 1) := by
        rw [Nat.div_lt_iff_lt_mul (by decide)]
        rw [Nat.pow_succ] at h
        exact h
      have := dg_len k (n / 10) h1
      simp only [List.length_cons, List.length_nil]
      omega
theorem dgB_size (n : Nat) (h : n ≤ 18446744073709551615) : (dgB n).size ≤ 20 := dg_len 19 n (by omega)
theorem dgB_one {n : Nat} (h : n < 10) : dgB n = ⟨#[UInt8.ofNat (48 + n)]⟩ := by
  unfold dgB
  rw [Lib.decDigits, dif_pos h]
theorem dgB_more {n : Nat} (h : ¬ n < 10) : dgB n = dgB (n / 10) ++ ⟨#[UInt8.ofNat (48 + n % 10)]⟩ := by
  unfold dgB
  rw [Lib.decDigits, dif_neg h]
  apply ByteArray.ext
  simp
theorem wrap_u {n : Int} (h0 : 0 ≤ n) (h1 : n ≤ 18446744073709551615) : IntKind.u64.wrap n = n := by
  have : IntKind.u64.wrap n = n % 18446744073709551616 := rfl
  rw [this]
  omega
theorem dig_does : ∀ (n : Nat), n ≤ 18446744073709551615 → Does Tryd.prog 74 [u64A n] (fun m => (sA (dgB n), m)) := fun n => by
  induction n using Nat.strongRecOn with
  | ind n ih =>
    intro hn
    cases d1 : decide ((n : Int) < 10) with
    | true =>
      refine does_of' Tryd.func74 rfl (by kernel_rfl) rfl Tryd.ntmps74 rfl rfl fun Q hQ => ?_
      repeat (first
          | refine tr_seq_k fun _ _ => ?_
          | (refine tr_region ?_; simp only [go_sem, List.getElem?_toArray, str_beq, reduceCtorEq, Nat.reduceEqDiff, Nat.reduceLT, Nat.reduceLeDiff, Nat.reduceAdd, Nat.reduceMul, Nat.reduceSub, Nat.reduceBEq, ↓reduceIte, bne_self_eq_false, Bool.and_false, Bool.false_and, Bool.true_or, Bool.false_or, d1])
          | (refine tr_draw (id := 3) follows 10000 [2] [0, 1, 3, 4, 5, 6, 7, 8, 2, 9, 10] (by kernel_rfl) ?_; simp only [go_sem, List.getElem?_toArray, str_beq, reduceCtorEq, Nat.reduceEqDiff, Nat.reduceLT, Nat.reduceLeDiff, Nat.reduceAdd, Nat.reduceMul, Nat.reduceSub, Nat.reduceBEq, ↓reduceIte, bne_self_eq_false, Bool.and_false, Bool.false_and, Bool.true_or, Bool.false_or, d1])
          | refine k_of (by assumption) ?_
          | refine tr_block ?_
          | refine tr_scope ?_
          | (refine tr_skip ?_; try simp only [ex_seq, ex_block])
          | (refine tr_label ?_; try simp only [ex_seq, ex_block])
          | (refine tr_exit ?_; try simp only [ex_seq_exit, ex_block_exit, Nat.reduceEqDiff, if_true, if_false, ex_seq, ex_block, reduceCtorEq, ↓reduceIte])
          | (refine tr_ret ?_; try simp only [ex_seq_ret, ex_block_ret]))
      refine tr_cond rfl (fun ht => ?_) (fun hf => ?_)
      · have hlt : n < 10 := by have := of_decide_eq_true d1; omega
        have c1 := cut_dig n hlt
        have w1 : IntKind.u64.wrap ((n : Int) + 1) = ((n + 1 : Nat) : Int) := by rw [wrap_u (by omega) (by omega)]; rfl
        repeat (first
            | refine tr_seq_k fun _ _ => ?_
            | (refine tr_region ?_; simp only [go_sem, List.getElem?_toArray, str_beq, reduceCtorEq, Nat.reduceEqDiff, Nat.reduceLT, Nat.reduceLeDiff, Nat.reduceAdd, Nat.reduceMul, Nat.reduceSub, Nat.reduceBEq, ↓reduceIte, bne_self_eq_false, Bool.and_false, Bool.false_and, Bool.true_or, Bool.false_or, w1, c1])
            | (refine tr_draw (id := 3) follows 10000 [2] [0, 1, 3, 4, 5, 6, 7, 8, 2, 9, 10] (by kernel_rfl) ?_; simp only [go_sem, List.getElem?_toArray, str_beq, reduceCtorEq, Nat.reduceEqDiff, Nat.reduceLT, Nat.reduceLeDiff, Nat.reduceAdd, Nat.reduceMul, Nat.reduceSub, Nat.reduceBEq, ↓reduceIte, bne_self_eq_false, Bool.and_false, Bool.false_and, Bool.true_or, Bool.false_or, w1, c1])
            | refine k_of (by assumption) ?_
            | refine tr_block ?_
            | refine tr_scope ?_
            | (refine tr_skip ?_; try simp only [ex_seq, ex_block])
            | (refine tr_label ?_; try simp only [ex_seq, ex_block])
            | (refine tr_exit ?_; try simp only [ex_seq_exit, ex_block_exit, Nat.reduceEqDiff, if_true, if_false, ex_seq, ex_block, reduceCtorEq, ↓reduceIte])
            | (refine tr_ret ?_; try simp only [ex_seq_ret, ex_block_ret]))
        refine (hQ _ _ [sA (⟨#[UInt8.ofNat (48 + n)]⟩ : ByteArray)] ?_ (fun m => ?_)).2 <;> simp only [go_sem, List.getElem?_toArray, str_beq, reduceCtorEq, Nat.reduceEqDiff, Nat.reduceLT, Nat.reduceLeDiff, Nat.reduceAdd, Nat.reduceMul, Nat.reduceSub, Nat.reduceBEq, ↓reduceIte, bne_self_eq_false, Bool.and_false, Bool.false_and, Bool.true_or, Bool.false_or, Tryd.f74, dgB_one hlt]
      · cases hf
    | false =>
      have cR := ih (n / 10) (by have := of_decide_eq_false d1; omega) (by omega)
      refine does_of' Tryd.func74 rfl (by kernel_rfl) rfl Tryd.ntmps74 rfl rfl fun Q hQ => ?_
      repeat (first
          | refine tr_seq_k fun _ _ => ?_
          | (refine tr_region ?_; simp only [go_sem, List.getElem?_toArray, str_beq, reduceCtorEq, Nat.reduceEqDiff, Nat.reduceLT, Nat.reduceLeDiff, Nat.reduceAdd, Nat.reduceMul, Nat.reduceSub, Nat.reduceBEq, ↓reduceIte, bne_self_eq_false, Bool.and_false, Bool.false_and, Bool.true_or, Bool.false_or, d1])
          | (refine tr_draw (id := 3) follows 10000 [2] [0, 1, 3, 4, 5, 6, 7, 8, 2, 9, 10] (by kernel_rfl) ?_; simp only [go_sem, List.getElem?_toArray, str_beq, reduceCtorEq, Nat.reduceEqDiff, Nat.reduceLT, Nat.reduceLeDiff, Nat.reduceAdd, Nat.reduceMul, Nat.reduceSub, Nat.reduceBEq, ↓reduceIte, bne_self_eq_false, Bool.and_false, Bool.false_and, Bool.true_or, Bool.false_or, d1])
          | refine k_of (by assumption) ?_
          | refine tr_block ?_
          | refine tr_scope ?_
          | (refine tr_skip ?_; try simp only [ex_seq, ex_block])
          | (refine tr_label ?_; try simp only [ex_seq, ex_block])
          | (refine tr_exit ?_; try simp only [ex_seq_exit, ex_block_exit, Nat.reduceEqDiff, if_true, if_false, ex_seq, ex_block, reduceCtorEq, ↓reduceIte])
          | (refine tr_ret ?_; try simp only [ex_seq_ret, ex_block_ret]))
      refine tr_cond rfl (fun ht => ?_) (fun hf => ?_)
      · cases ht
      · have hge : ¬ n < 10 := by have := of_decide_eq_false d1; omega
        have c1 := cut_dig (n % 10) (by omega)
        have t1 : (n : Int).tdiv 10 = ((n / 10 : Nat) : Int) := by rw [Int.tdiv_eq_ediv_of_nonneg (by omega)]; omega
        have t2 : (n : Int).tmod 10 = ((n % 10 : Nat) : Int) := by rw [Int.tmod_eq_emod_of_nonneg (by omega)]; omega
        have w1 : IntKind.u64.wrap (((n / 10 : Nat) : Int)) = ((n / 10 : Nat) : Int) := wrap_u (by omega) (by omega)
        have w2 : IntKind.u64.wrap (((n % 10 : Nat) : Int) + 1) = ((n % 10 + 1 : Nat) : Int) := by rw [wrap_u (by omega) (by omega)]; rfl
        have a1 := sadd (a := dgB (n / 10)) (b := ⟨#[UInt8.ofNat (48 + n % 10)]⟩) (n := 1000) (by have := dgB_size (n / 10) (by omega); have : (⟨#[UInt8.ofNat (48 + n % 10)]⟩ : ByteArray).size = 1 := rfl; omega) (by decide)
        repeat (first
            | refine tr_seq_k fun _ _ => ?_
            | (refine tr_region ?_; simp only [go_sem, List.getElem?_toArray, str_beq, reduceCtorEq, Nat.reduceEqDiff, Nat.reduceLT, Nat.reduceLeDiff, Nat.reduceAdd, Nat.reduceMul, Nat.reduceSub, Nat.reduceBEq, ↓reduceIte, bne_self_eq_false, Bool.and_false, Bool.false_and, Bool.true_or, Bool.false_or, ten_ne, t1, t2, w1, w2, c1, a1])
            | (refine tr_draw (id := 3) follows 10000 [2] [0, 1, 3, 4, 5, 6, 7, 8, 2, 9, 10] (by kernel_rfl) ?_; simp only [go_sem, List.getElem?_toArray, str_beq, reduceCtorEq, Nat.reduceEqDiff, Nat.reduceLT, Nat.reduceLeDiff, Nat.reduceAdd, Nat.reduceMul, Nat.reduceSub, Nat.reduceBEq, ↓reduceIte, bne_self_eq_false, Bool.and_false, Bool.false_and, Bool.true_or, Bool.false_or, ten_ne, t1, t2, w1, w2, c1, a1])
            | (refine call_of (cR) ?_ ?_
               · first | rfl | simp only [go_sem, List.getElem?_toArray, str_beq, reduceCtorEq, Nat.reduceEqDiff, Nat.reduceLT, Nat.reduceLeDiff, Nat.reduceAdd, Nat.reduceMul, Nat.reduceSub, Nat.reduceBEq, ↓reduceIte, bne_self_eq_false, Bool.and_false, Bool.false_and, Bool.true_or, Bool.false_or, ten_ne, t1, t2, w1, w2, c1, a1, shut_col]
               simp only [go_sem, List.getElem?_toArray, str_beq, reduceCtorEq, Nat.reduceEqDiff, Nat.reduceLT, Nat.reduceLeDiff, Nat.reduceAdd, Nat.reduceMul, Nat.reduceSub, Nat.reduceBEq, ↓reduceIte, bne_self_eq_false, Bool.and_false, Bool.false_and, Bool.true_or, Bool.false_or, ten_ne, t1, t2, w1, w2, c1, a1])
            | refine k_of (by assumption) ?_
            | refine tr_block ?_
            | refine tr_scope ?_
            | (refine tr_skip ?_; try simp only [ex_seq, ex_block])
            | (refine tr_label ?_; try simp only [ex_seq, ex_block])
            | (refine tr_exit ?_; try simp only [ex_seq_exit, ex_block_exit, Nat.reduceEqDiff, if_true, if_false, ex_seq, ex_block, reduceCtorEq, ↓reduceIte])
            | (refine tr_ret ?_; try simp only [ex_seq_ret, ex_block_ret]))
        refine (hQ _ _ [sA (dgB (n / 10) ++ ⟨#[UInt8.ofNat (48 + n % 10)]⟩)] ?_ (fun m => ?_)).2 <;> simp only [go_sem, List.getElem?_toArray, str_beq, reduceCtorEq, Nat.reduceEqDiff, Nat.reduceLT, Nat.reduceLeDiff, Nat.reduceAdd, Nat.reduceMul, Nat.reduceSub, Nat.reduceBEq, ↓reduceIte, bne_self_eq_false, Bool.and_false, Bool.false_and, Bool.true_or, Bool.false_or, Tryd.f74, dgB_more hge]
theorem itoa_neg {n : Int} (h : n < 0) : itoaB n = ⟨#[45]⟩ ++ dgB n.natAbs := by
  unfold itoaB dgB Lib.itoa
  rw [if_pos h]
  apply ByteArray.ext
  simp
theorem itoa_pos {n : Int} (h : ¬ n < 0) : itoaB n = dgB n.toNat := by
  unfold itoaB dgB Lib.itoa
  rw [if_neg h]
theorem num_does (n : Int) (h0 : -9223372036854775808 ≤ n) (h1 : n ≤ 9223372036854775807) : Does Tryd.prog 56 [iA n] (fun m => (sA (itoaB n), m)) := by
  have wr : ∀ x : Int, IntKind.u64.wrap x = x % 18446744073709551616 := fun x => rfl
  cases d1 : decide (n < 0) with
  | true =>
    have hn := of_decide_eq_true d1
    have cD := dig_does n.natAbs (by omega)
    have w1 : IntKind.u64.wrap (0 - IntKind.u64.wrap n) = ((n.natAbs : Nat) : Int) := by rw [wr, wr]; omega
    have a1 := sadd (a := ⟨#[45]⟩) (b := dgB n.natAbs) (n := 1000) (by have := dgB_size n.natAbs (by omega); have : (⟨#[45]⟩ : ByteArray).size = 1 := rfl; omega) (by decide)
    refine does_of' Tryd.func56 rfl (by kernel_rfl) rfl Tryd.ntmps56 rfl rfl fun Q hQ => ?_
    repeat (first
        | refine tr_seq_k fun _ _ => ?_
        | (refine tr_region ?_; simp only [go_sem, List.getElem?_toArray, str_beq, reduceCtorEq, Nat.reduceEqDiff, Nat.reduceLT, Nat.reduceLeDiff, Nat.reduceAdd, Nat.reduceMul, Nat.reduceSub, Nat.reduceBEq, ↓reduceIte, bne_self_eq_false, Bool.and_false, Bool.false_and, Bool.true_or, Bool.false_or, d1])
        | refine k_of (by assumption) ?_
        | refine tr_block ?_
        | refine tr_scope ?_
        | (refine tr_skip ?_; try simp only [ex_seq, ex_block])
        | (refine tr_label ?_; try simp only [ex_seq, ex_block])
        | (refine tr_exit ?_; try simp only [ex_seq_exit, ex_block_exit, Nat.reduceEqDiff, if_true, if_false, ex_seq, ex_block, reduceCtorEq, ↓reduceIte])
        | (refine tr_ret ?_; try simp only [ex_seq_ret, ex_block_ret]))
    refine tr_cond rfl (fun ht => ?_) (fun hf => ?_)
    · repeat (first
          | refine tr_seq_k fun _ _ => ?_
          | (refine tr_region ?_; simp only [go_sem, List.getElem?_toArray, str_beq, reduceCtorEq, Nat.reduceEqDiff, Nat.reduceLT, Nat.reduceLeDiff, Nat.reduceAdd, Nat.reduceMul, Nat.reduceSub, Nat.reduceBEq, ↓reduceIte, bne_self_eq_false, Bool.and_false, Bool.false_and, Bool.true_or, Bool.false_or, conv_u, w1, a1])
          | (refine call_of (cD) ?_ ?_
             · first | rfl | simp only [go_sem, List.getElem?_toArray, str_beq, reduceCtorEq, Nat.reduceEqDiff, Nat.reduceLT, Nat.reduceLeDiff, Nat.reduceAdd, Nat.reduceMul, Nat.reduceSub, Nat.reduceBEq, ↓reduceIte, bne_self_eq_false, Bool.and_false, Bool.false_and, Bool.true_or, Bool.false_or, conv_u, w1, a1, shut_col]
             simp only [go_sem, List.getElem?_toArray, str_beq, reduceCtorEq, Nat.reduceEqDiff, Nat.reduceLT, Nat.reduceLeDiff, Nat.reduceAdd, Nat.reduceMul, Nat.reduceSub, Nat.reduceBEq, ↓reduceIte, bne_self_eq_false, Bool.and_false, Bool.false_and, Bool.true_or, Bool.false_or, conv_u, w1, a1])
          | refine k_of (by assumption) ?_
          | refine tr_block ?_
          | refine tr_scope ?_
          | (refine tr_skip ?_; try simp only [ex_seq, ex_block])
          | (refine tr_label ?_; try simp only [ex_seq, ex_block])
          | (refine tr_exit ?_; try simp only [ex_seq_exit, ex_block_exit, Nat.reduceEqDiff, if_true, if_false, ex_seq, ex_block, reduceCtorEq, ↓reduceIte])
          | (refine tr_ret ?_; try simp only [ex_seq_ret, ex_block_ret]))
      refine (hQ _ _ [sA (⟨#[45]⟩ ++ dgB n.natAbs)] ?_ (fun m => ?_)).2 <;> simp only [go_sem, List.getElem?_toArray, str_beq, reduceCtorEq, Nat.reduceEqDiff, Nat.reduceLT, Nat.reduceLeDiff, Nat.reduceAdd, Nat.reduceMul, Nat.reduceSub, Nat.reduceBEq, ↓reduceIte, bne_self_eq_false, Bool.and_false, Bool.false_and, Bool.true_or, Bool.false_or, Tryd.f56, itoa_neg hn]
    · cases hf
  | false =>
    have hn := of_decide_eq_false d1
    have cD := dig_does n.toNat (by omega)
    have w1 : IntKind.u64.wrap n = ((n.toNat : Nat) : Int) := by rw [wr]; omega
    refine does_of' Tryd.func56 rfl (by kernel_rfl) rfl Tryd.ntmps56 rfl rfl fun Q hQ => ?_
    repeat (first
        | refine tr_seq_k fun _ _ => ?_
        | (refine tr_region ?_; simp only [go_sem, List.getElem?_toArray, str_beq, reduceCtorEq, Nat.reduceEqDiff, Nat.reduceLT, Nat.reduceLeDiff, Nat.reduceAdd, Nat.reduceMul, Nat.reduceSub, Nat.reduceBEq, ↓reduceIte, bne_self_eq_false, Bool.and_false, Bool.false_and, Bool.true_or, Bool.false_or, d1])
        | refine k_of (by assumption) ?_
        | refine tr_block ?_
        | refine tr_scope ?_
        | (refine tr_skip ?_; try simp only [ex_seq, ex_block])
        | (refine tr_label ?_; try simp only [ex_seq, ex_block])
        | (refine tr_exit ?_; try simp only [ex_seq_exit, ex_block_exit, Nat.reduceEqDiff, if_true, if_false, ex_seq, ex_block, reduceCtorEq, ↓reduceIte])
        | (refine tr_ret ?_; try simp only [ex_seq_ret, ex_block_ret]))
    refine tr_cond rfl (fun ht => ?_) (fun hf => ?_)
    · cases ht
    · repeat (first
          | refine tr_seq_k fun _ _ => ?_
          | (refine tr_region ?_; simp only [go_sem, List.getElem?_toArray, str_beq, reduceCtorEq, Nat.reduceEqDiff, Nat.reduceLT, Nat.reduceLeDiff, Nat.reduceAdd, Nat.reduceMul, Nat.reduceSub, Nat.reduceBEq, ↓reduceIte, bne_self_eq_false, Bool.and_false, Bool.false_and, Bool.true_or, Bool.false_or, conv_u, w1])
          | (refine call_of (cD) ?_ ?_
             · first | rfl | simp only [go_sem, List.getElem?_toArray, str_beq, reduceCtorEq, Nat.reduceEqDiff, Nat.reduceLT, Nat.reduceLeDiff, Nat.reduceAdd, Nat.reduceMul, Nat.reduceSub, Nat.reduceBEq, ↓reduceIte, bne_self_eq_false, Bool.and_false, Bool.false_and, Bool.true_or, Bool.false_or, conv_u, w1, shut_col]
             simp only [go_sem, List.getElem?_toArray, str_beq, reduceCtorEq, Nat.reduceEqDiff, Nat.reduceLT, Nat.reduceLeDiff, Nat.reduceAdd, Nat.reduceMul, Nat.reduceSub, Nat.reduceBEq, ↓reduceIte, bne_self_eq_false, Bool.and_false, Bool.false_and, Bool.true_or, Bool.false_or, conv_u, w1])
          | refine k_of (by assumption) ?_
          | refine tr_block ?_
          | refine tr_scope ?_
          | (refine tr_skip ?_; try simp only [ex_seq, ex_block])
          | (refine tr_label ?_; try simp only [ex_seq, ex_block])
          | (refine tr_exit ?_; try simp only [ex_seq_exit, ex_block_exit, Nat.reduceEqDiff, if_true, if_false, ex_seq, ex_block, reduceCtorEq, ↓reduceIte])
          | (refine tr_ret ?_; try simp only [ex_seq_ret, ex_block_ret]))
      refine (hQ _ _ [sA (dgB n.toNat)] ?_ (fun m => ?_)).2 <;> simp only [go_sem, List.getElem?_toArray, str_beq, reduceCtorEq, Nat.reduceEqDiff, Nat.reduceLT, Nat.reduceLeDiff, Nat.reduceAdd, Nat.reduceMul, Nat.reduceSub, Nat.reduceBEq, ↓reduceIte, bne_self_eq_false, Bool.and_false, Bool.false_and, Bool.true_or, Bool.false_or, Tryd.f56, itoa_pos hn]
end Go.Proofs.YtaeehadibckcjaaDoor

/-
  Chapter 11: the document's answer: bodies, rules, grants, clears, goals.
-/
namespace Go.Proofs.YtaeehadibckcjaaDoor
open Go.RowKit Go.Vs Go.Vs.Ab
set_option maxRecDepth 100000
set_option maxHeartbeats 4000000
theorem rbody_does (l : List Atm) (ex : Bool) (hs : ∀ a ∈ l, AtSz a) (hl : l.length ≤ 100) : Does Tryd.prog 54 [.c (slC atC ex l)] (fun m => (sA (pbody l), m)) := by
  have z1 : tIf.size = 4 := rfl
  have z2 : tComma.size = 2 := rfl
  refine does_of' Tryd.func54 rfl (by kernel_rfl) rfl Tryd.ntmps54 rfl rfl fun Q hQ => ?_
  repeat (first
      | refine tr_seq_k fun _ _ => ?_
      | (refine tr_region ?_; simp only [go_sem, List.getElem?_toArray, str_beq, reduceCtorEq, Nat.reduceEqDiff, Nat.reduceLT, Nat.reduceLeDiff, Nat.reduceAdd, Nat.reduceMul, Nat.reduceSub, Nat.reduceBEq, ↓reduceIte, bne_self_eq_false, Bool.and_false, Bool.false_and, Bool.true_or, Bool.false_or])
      | refine k_of (by assumption) ?_
      | refine tr_block ?_
      | refine tr_scope ?_
      | (refine tr_skip ?_; try simp only [ex_seq, ex_block])
      | (refine tr_label ?_; try simp only [ex_seq, ex_block])
      | (refine tr_exit ?_; try simp only [ex_seq_exit, ex_block_exit, Nat.reduceEqDiff, if_true, if_false, ex_seq, ex_block, reduceCtorEq, ↓reduceIte])
      | (refine tr_ret ?_; try simp only [ex_seq_ret, ex_block_ret]))
  refine tr_loop_k (σ := Nat) (fun k => [(0, .c (slC atC ex l)), (3, sA (pbodyK l k)), (4, iA k)]) (fun _ => ⟨[], []⟩) (fun k => k ≤ l.length) (fun k => l.length - k) 0 (Nat.zero_le _) ⟨rfl, rfl, rfl, trivial⟩ rfl ?_
  rintro k hk K hK
  by_cases hkl : k < l.length
  · have d1 : decide ((k : Int) < (l.length : Nat)) = true := decide_eq_true (by omega)
    have ix := idxA' (ex := ex) hkl
    have ws := wrap_succ (show k ≤ 1000000000 by omega)
    have cT := r3text_does l[k] (hs l[k] (List.getElem_mem hkl))
    have hz := ptext_size (hs l[k] (List.getElem_mem hkl))
    have hn := pbodyK_next hkl
    have hb := pbodyK_size hs k
    have hb2 : k * 10000010 ≤ 100 * 10000010 := Nat.mul_le_mul_right _ (by omega)
    generalize l[k] = a at *
    by_cases h0 : k = 0
    · have d2 : decide (((k : Nat) : Int) = 0) = true := decide_eq_true (by omega)
      have a1 := sadd (a := tIf) (b := ptext a) (n := 100000000) (by omega) (by decide)
      have e1 : pbodyK l (k + 1) = tIf ++ ptext a := by
        rw [hn, if_pos h0, h0]
        exact none_app rfl
      repeat (first
          | refine tr_seq_k fun _ _ => ?_
          | (refine tr_region ?_; simp only [go_sem, List.getElem?_toArray, str_beq, reduceCtorEq, Nat.reduceEqDiff, Nat.reduceLT, Nat.reduceLeDiff, Nat.reduceAdd, Nat.reduceMul, Nat.reduceSub, Nat.reduceBEq, ↓reduceIte, bne_self_eq_false, Bool.and_false, Bool.false_and, Bool.true_or, Bool.false_or, d1])
          | refine k_of (by assumption) ?_
          | refine tr_block ?_
          | refine tr_scope ?_
          | (refine tr_skip ?_; try simp only [ex_seq, ex_block])
          | (refine tr_label ?_; try simp only [ex_seq, ex_block])
          | (refine tr_exit ?_; try simp only [ex_seq_exit, ex_block_exit, Nat.reduceEqDiff, if_true, if_false, ex_seq, ex_block, reduceCtorEq, ↓reduceIte])
          | (refine tr_ret ?_; try simp only [ex_seq_ret, ex_block_ret]))
      refine tr_cond rfl (fun ht => ?_) (fun hf => ?_)
      · repeat (first
            | refine tr_seq_k fun _ _ => ?_
            | (refine tr_region ?_; simp only [go_sem, List.getElem?_toArray, str_beq, reduceCtorEq, Nat.reduceEqDiff, Nat.reduceLT, Nat.reduceLeDiff, Nat.reduceAdd, Nat.reduceMul, Nat.reduceSub, Nat.reduceBEq, ↓reduceIte, bne_self_eq_false, Bool.and_false, Bool.false_and, Bool.true_or, Bool.false_or, d2])
            | refine k_of (by assumption) ?_
            | refine tr_block ?_
            | refine tr_scope ?_
            | (refine tr_skip ?_; try simp only [ex_seq, ex_block])
            | (refine tr_label ?_; try simp only [ex_seq, ex_block])
            | (refine tr_exit ?_; try simp only [ex_seq_exit, ex_block_exit, Nat.reduceEqDiff, if_true, if_false, ex_seq, ex_block, reduceCtorEq, ↓reduceIte])
            | (refine tr_ret ?_; try simp only [ex_seq_ret, ex_block_ret]))
        refine tr_cond rfl (fun ht => ?_) (fun hf => ?_)
        · repeat (first
              | refine tr_seq_k fun _ _ => ?_
              | (refine tr_region ?_; simp only [go_sem, List.getElem?_toArray, str_beq, reduceCtorEq, Nat.reduceEqDiff, Nat.reduceLT, Nat.reduceLeDiff, Nat.reduceAdd, Nat.reduceMul, Nat.reduceSub, Nat.reduceBEq, ↓reduceIte, bne_self_eq_false, Bool.and_false, Bool.false_and, Bool.true_or, Bool.false_or, ix, ws, a1])
              | (refine call_of (cT) ?_ ?_
                 · first | rfl | simp only [go_sem, List.getElem?_toArray, str_beq, reduceCtorEq, Nat.reduceEqDiff, Nat.reduceLT, Nat.reduceLeDiff, Nat.reduceAdd, Nat.reduceMul, Nat.reduceSub, Nat.reduceBEq, ↓reduceIte, bne_self_eq_false, Bool.and_false, Bool.false_and, Bool.true_or, Bool.false_or, ix, ws, a1, shut_col]
                 simp only [go_sem, List.getElem?_toArray, str_beq, reduceCtorEq, Nat.reduceEqDiff, Nat.reduceLT, Nat.reduceLeDiff, Nat.reduceAdd, Nat.reduceMul, Nat.reduceSub, Nat.reduceBEq, ↓reduceIte, bne_self_eq_false, Bool.and_false, Bool.false_and, Bool.true_or, Bool.false_or, ix, ws, a1])
              | refine k_of (by assumption) ?_
              | refine tr_block ?_
              | refine tr_scope ?_
              | (refine tr_skip ?_; try simp only [ex_seq, ex_block])
              | (refine tr_label ?_; try simp only [ex_seq, ex_block])
              | (refine tr_exit ?_; try simp only [ex_seq_exit, ex_block_exit, Nat.reduceEqDiff, if_true, if_false, ex_seq, ex_block, reduceCtorEq, ↓reduceIte])
              | (refine tr_ret ?_; try simp only [ex_seq_ret, ex_block_ret]))
          exact hK (k + 1) _ _ hkl ⟨⟨rfl, by rw [e1]; rfl, rfl, trivial⟩, Keep.refl _, rfl, rfl, Nat.le_refl _, Nat.le_refl _⟩ (by omega)
        · cases hf
      · cases hf
    · have d2 : decide (((k : Nat) : Int) = 0) = false := decide_eq_false (by omega)
      have a0 := sadd (a := pbodyK l k) (b := tComma) (n := 10000000000) (by omega) (by decide)
      have a1 := sadd (a := pbodyK l k ++ tComma) (b := ptext a) (n := 10000000000) (by rw [app_size]; omega) (by decide)
      have e1 : pbodyK l (k + 1) = (pbodyK l k ++ tComma) ++ ptext a := by
        rw [hn, if_neg h0, ByteArray.append_assoc]
      repeat (first
          | refine tr_seq_k fun _ _ => ?_
          | (refine tr_region ?_; simp only [go_sem, List.getElem?_toArray, str_beq, reduceCtorEq, Nat.reduceEqDiff, Nat.reduceLT, Nat.reduceLeDiff, Nat.reduceAdd, Nat.reduceMul, Nat.reduceSub, Nat.reduceBEq, ↓reduceIte, bne_self_eq_false, Bool.and_false, Bool.false_and, Bool.true_or, Bool.false_or, d1])
          | refine k_of (by assumption) ?_
          | refine tr_block ?_
          | refine tr_scope ?_
          | (refine tr_skip ?_; try simp only [ex_seq, ex_block])
          | (refine tr_label ?_; try simp only [ex_seq, ex_block])
          | (refine tr_exit ?_; try simp only [ex_seq_exit, ex_block_exit, Nat.reduceEqDiff, if_true, if_false, ex_seq, ex_block, reduceCtorEq, ↓reduceIte])
          | (refine tr_ret ?_; try simp only [ex_seq_ret, ex_block_ret]))
      refine tr_cond rfl (fun ht => ?_) (fun hf => ?_)
      · repeat (first
            | refine tr_seq_k fun _ _ => ?_
            | (refine tr_region ?_; simp only [go_sem, List.getElem?_toArray, str_beq, reduceCtorEq, Nat.reduceEqDiff, Nat.reduceLT, Nat.reduceLeDiff, Nat.reduceAdd, Nat.reduceMul, Nat.reduceSub, Nat.reduceBEq, ↓reduceIte, bne_self_eq_false, Bool.and_false, Bool.false_and, Bool.true_or, Bool.false_or, d2])
            | refine k_of (by assumption) ?_
            | refine tr_block ?_
            | refine tr_scope ?_
            | (refine tr_skip ?_; try simp only [ex_seq, ex_block])
            | (refine tr_label ?_; try simp only [ex_seq, ex_block])
            | (refine tr_exit ?_; try simp only [ex_seq_exit, ex_block_exit, Nat.reduceEqDiff, if_true, if_false, ex_seq, ex_block, reduceCtorEq, ↓reduceIte])
            | (refine tr_ret ?_; try simp only [ex_seq_ret, ex_block_ret]))
        refine tr_cond rfl (fun ht => ?_) (fun hf => ?_)
        · cases ht
        · repeat (first
              | refine tr_seq_k fun _ _ => ?_
              | (refine tr_region ?_; simp only [go_sem, List.getElem?_toArray, str_beq, reduceCtorEq, Nat.reduceEqDiff, Nat.reduceLT, Nat.reduceLeDiff, Nat.reduceAdd, Nat.reduceMul, Nat.reduceSub, Nat.reduceBEq, ↓reduceIte, bne_self_eq_false, Bool.and_false, Bool.false_and, Bool.true_or, Bool.false_or, ix, ws, a0, a1])
              | (refine call_of (cT) ?_ ?_
                 · first | rfl | simp only [go_sem, List.getElem?_toArray, str_beq, reduceCtorEq, Nat.reduceEqDiff, Nat.reduceLT, Nat.reduceLeDiff, Nat.reduceAdd, Nat.reduceMul, Nat.reduceSub, Nat.reduceBEq, ↓reduceIte, bne_self_eq_false, Bool.and_false, Bool.false_and, Bool.true_or, Bool.false_or, ix, ws, a0, a1, shut_col]
                 simp only [go_sem, List.getElem?_toArray, str_beq, reduceCtorEq, Nat.reduceEqDiff, Nat.reduceLT, Nat.reduceLeDiff, Nat.reduceAdd, Nat.reduceMul, Nat.reduceSub, Nat.reduceBEq, ↓reduceIte, bne_self_eq_false, Bool.and_false, Bool.false_and, Bool.true_or, Bool.false_or, ix, ws, a0, a1])
              | refine k_of (by assumption) ?_
              | refine tr_block ?_
              | refine tr_scope ?_
              | (refine tr_skip ?_; try simp only [ex_seq, ex_block])
              | (refine tr_label ?_; try simp only [ex_seq, ex_block])
              | (refine tr_exit ?_; try simp only [ex_seq_exit, ex_block_exit, Nat.reduceEqDiff, if_true, if_false, ex_seq, ex_block, reduceCtorEq, ↓reduceIte])
              | (refine tr_ret ?_; try simp only [ex_seq_ret, ex_block_ret]))
          exact hK (k + 1) _ _ hkl ⟨⟨rfl, by rw [e1]; rfl, rfl, trivial⟩, Keep.refl _, rfl, rfl, Nat.le_refl _, Nat.le_refl _⟩ (by omega)
      · cases hf
  · have d1 : decide ((k : Int) < (l.length : Nat)) = false := decide_eq_false (by omega)
    obtain rfl : k = l.length := by omega
    repeat (first
        | refine tr_seq_k fun _ _ => ?_
        | (refine tr_region ?_; simp only [go_sem, List.getElem?_toArray, str_beq, reduceCtorEq, Nat.reduceEqDiff, Nat.reduceLT, Nat.reduceLeDiff, Nat.reduceAdd, Nat.reduceMul, Nat.reduceSub, Nat.reduceBEq, ↓reduceIte, bne_self_eq_false, Bool.and_false, Bool.false_and, Bool.true_or, Bool.false_or, d1])
        | refine k_of (by assumption) ?_
        | refine tr_block ?_
        | refine tr_scope ?_
        | (refine tr_skip ?_; try simp only [ex_seq, ex_block])
        | (refine tr_label ?_; try simp only [ex_seq, ex_block])
        | (refine tr_exit ?_; try simp only [ex_seq_exit, ex_block_exit, Nat.reduceEqDiff, if_true, if_false, ex_seq, ex_block, reduceCtorEq, ↓reduceIte])
        | (refine tr_ret ?_; try simp only [ex_seq_ret, ex_block_ret]))
    refine tr_cond rfl (fun ht => ?_) (fun hf => ?_)
    · cases ht
    · repeat (first
          | refine tr_seq_k fun _ _ => ?_
          | (refine tr_region ?_; simp only [go_sem, List.getElem?_toArray, str_beq, reduceCtorEq, Nat.reduceEqDiff, Nat.reduceLT, Nat.reduceLeDiff, Nat.reduceAdd, Nat.reduceMul, Nat.reduceSub, Nat.reduceBEq, ↓reduceIte, bne_self_eq_false, Bool.and_false, Bool.false_and, Bool.true_or, Bool.false_or])
          | refine k_of (by assumption) ?_
          | refine tr_block ?_
          | refine tr_scope ?_
          | (refine tr_skip ?_; try simp only [ex_seq, ex_block])
          | (refine tr_label ?_; try simp only [ex_seq, ex_block])
          | (refine tr_exit ?_; try simp only [ex_seq_exit, ex_block_exit, Nat.reduceEqDiff, if_true, if_false, ex_seq, ex_block, reduceCtorEq, ↓reduceIte])
          | (refine tr_ret ?_; try simp only [ex_seq_ret, ex_block_ret]))
      refine (hQ _ _ [sA (pbody l)] ?_ (fun m => ?_)).2 <;> simp only [go_sem, List.getElem?_toArray, str_beq, reduceCtorEq, Nat.reduceEqDiff, Nat.reduceLT, Nat.reduceLeDiff, Nat.reduceAdd, Nat.reduceMul, Nat.reduceSub, Nat.reduceBEq, ↓reduceIte, bne_self_eq_false, Bool.and_false, Bool.false_and, Bool.true_or, Bool.false_or, Tryd.f54, pbody]
theorem rrule_does (r : Rul) (h1 : AtSz r.head) (h2 : ∀ a ∈ r.body, AtSz a) (h3 : r.body.length ≤ 100) : Does Tryd.prog 21 [ruA r] (fun m => (sA (pRule r), m)) := by
  have cT := r3text_does r.head h1
  have cB := rbody_does r.body r.ex h2 h3
  have hz := ptext_size h1
  have hb := pbody_size h2 h3
  have a1 := sadd (a := ptext r.head) (b := pbody r.body) (n := 10000000000) (by omega) (by decide)
  refine does_of' Tryd.func21 rfl (by kernel_rfl) rfl Tryd.ntmps21 rfl rfl fun Q hQ => ?_
  repeat (first
      | refine tr_seq_k fun _ _ => ?_
      | (refine tr_region ?_; simp only [go_sem, List.getElem?_toArray, str_beq, reduceCtorEq, Nat.reduceEqDiff, Nat.reduceLT, Nat.reduceLeDiff, Nat.reduceAdd, Nat.reduceMul, Nat.reduceSub, Nat.reduceBEq, ↓reduceIte, bne_self_eq_false, Bool.and_false, Bool.false_and, Bool.true_or, Bool.false_or, a1])
      | (refine tr_draw (id := 1) follows 10000 [2, 5] [0, 1, 3, 4, 2, 5, 6, 7] (by kernel_rfl) ?_; simp only [go_sem, List.getElem?_toArray, str_beq, reduceCtorEq, Nat.reduceEqDiff, Nat.reduceLT, Nat.reduceLeDiff, Nat.reduceAdd, Nat.reduceMul, Nat.reduceSub, Nat.reduceBEq, ↓reduceIte, bne_self_eq_false, Bool.and_false, Bool.false_and, Bool.true_or, Bool.false_or, a1])
      | (refine call_of (cT) ?_ ?_
         · first | rfl | simp only [go_sem, List.getElem?_toArray, str_beq, reduceCtorEq, Nat.reduceEqDiff, Nat.reduceLT, Nat.reduceLeDiff, Nat.reduceAdd, Nat.reduceMul, Nat.reduceSub, Nat.reduceBEq, ↓reduceIte, bne_self_eq_false, Bool.and_false, Bool.false_and, Bool.true_or, Bool.false_or, a1, shut_col]
         simp only [go_sem, List.getElem?_toArray, str_beq, reduceCtorEq, Nat.reduceEqDiff, Nat.reduceLT, Nat.reduceLeDiff, Nat.reduceAdd, Nat.reduceMul, Nat.reduceSub, Nat.reduceBEq, ↓reduceIte, bne_self_eq_false, Bool.and_false, Bool.false_and, Bool.true_or, Bool.false_or, a1])
      | (refine call_of (cB) ?_ ?_
         · first | rfl | simp only [go_sem, List.getElem?_toArray, str_beq, reduceCtorEq, Nat.reduceEqDiff, Nat.reduceLT, Nat.reduceLeDiff, Nat.reduceAdd, Nat.reduceMul, Nat.reduceSub, Nat.reduceBEq, ↓reduceIte, bne_self_eq_false, Bool.and_false, Bool.false_and, Bool.true_or, Bool.false_or, a1, shut_col]
         simp only [go_sem, List.getElem?_toArray, str_beq, reduceCtorEq, Nat.reduceEqDiff, Nat.reduceLT, Nat.reduceLeDiff, Nat.reduceAdd, Nat.reduceMul, Nat.reduceSub, Nat.reduceBEq, ↓reduceIte, bne_self_eq_false, Bool.and_false, Bool.false_and, Bool.true_or, Bool.false_or, a1])
      | refine k_of (by assumption) ?_
      | refine tr_block ?_
      | refine tr_scope ?_
      | (refine tr_skip ?_; try simp only [ex_seq, ex_block])
      | (refine tr_label ?_; try simp only [ex_seq, ex_block])
      | (refine tr_exit ?_; try simp only [ex_seq_exit, ex_block_exit, Nat.reduceEqDiff, if_true, if_false, ex_seq, ex_block, reduceCtorEq, ↓reduceIte])
      | (refine tr_ret ?_; try simp only [ex_seq_ret, ex_block_ret]))
  refine (hQ _ _ [sA (pRule r)] ?_ (fun m => ?_)).2 <;> simp only [go_sem, List.getElem?_toArray, str_beq, reduceCtorEq, Nat.reduceEqDiff, Nat.reduceLT, Nat.reduceLeDiff, Nat.reduceAdd, Nat.reduceMul, Nat.reduceSub, Nat.reduceBEq, ↓reduceIte, bne_self_eq_false, Bool.and_false, Bool.false_and, Bool.true_or, Bool.false_or, Tryd.f21, pRule]
theorem rgrant_does (g : Grt) (h0 : g.tw.size ≤ 1000000) (h1 : AtSz g.head) (h2 : ∀ a ∈ g.body, AtSz a) (h3 : g.body.length ≤ 100) : Does Tryd.prog 22 [grA g] (fun m => (sA (pGrant g), m)) := by
  have cS := said_does g.head h1
  have cB := rbody_does g.body g.ex h2 h3
  have hb := pbody_size h2 h3
  have hps : (psaid g.head).size ≤ 10000000 := by
    have := ptext_size h1
    unfold ptext at this
    rw [app_size] at this
    omega
  have z1 : tSays.size = 6 := rfl
  have z2 : tCan.size = 8 := rfl
  have q1 := h1.1
  have a1 := sadd (a := g.head.says) (b := tSays) (n := 10000000000) (by omega) (by decide)
  have a2 := sadd (a := g.head.says ++ tSays) (b := g.tw) (n := 10000000000) (by rw [app_size]; omega) (by decide)
  have a3 := sadd (a := (g.head.says ++ tSays) ++ g.tw) (b := tCan) (n := 10000000000) (by rw [app_size, app_size]; omega) (by decide)
  have a4 := sadd (a := ((g.head.says ++ tSays) ++ g.tw) ++ tCan) (b := psaid g.head) (n := 10000000000) (by rw [app_size, app_size, app_size]; omega) (by decide)
  have a5 := sadd (a := (((g.head.says ++ tSays) ++ g.tw) ++ tCan) ++ psaid g.head) (b := pbody g.body) (n := 10000000000) (by rw [app_size, app_size, app_size, app_size]; omega) (by decide)
  have hr : ((((g.head.says ++ tSays) ++ g.tw) ++ tCan) ++ psaid g.head) ++ pbody g.body = pGrant g := by
    unfold pGrant
    show _ = (g.head.says ++ (tSays ++ (g.tw ++ (tCan ++ (psaid g.head ++ (⟨#[]⟩ : ByteArray)))))) ++ _
    rw [app_e]
    simp only [ByteArray.append_assoc]
  rw [hr] at a5
  refine does_of' Tryd.func22 rfl (by kernel_rfl) rfl Tryd.ntmps22 rfl rfl fun Q hQ => ?_
  repeat (first
      | refine tr_seq_k fun _ _ => ?_
      | (refine tr_region ?_; simp only [go_sem, List.getElem?_toArray, str_beq, reduceCtorEq, Nat.reduceEqDiff, Nat.reduceLT, Nat.reduceLeDiff, Nat.reduceAdd, Nat.reduceMul, Nat.reduceSub, Nat.reduceBEq, ↓reduceIte, bne_self_eq_false, Bool.and_false, Bool.false_and, Bool.true_or, Bool.false_or, a1, a2, a3, a4, a5])
      | (refine tr_draw (id := 1) follows 10000 [10, 14] [0, 1, 2, 3, 4, 5, 6, 7, 8, 9, 12, 13, 10, 11, 14, 15, 16] (by kernel_rfl) ?_; simp only [go_sem, List.getElem?_toArray, str_beq, reduceCtorEq, Nat.reduceEqDiff, Nat.reduceLT, Nat.reduceLeDiff, Nat.reduceAdd, Nat.reduceMul, Nat.reduceSub, Nat.reduceBEq, ↓reduceIte, bne_self_eq_false, Bool.and_false, Bool.false_and, Bool.true_or, Bool.false_or, a1, a2, a3, a4, a5])
      | (refine call_of (cS) ?_ ?_
         · first | rfl | simp only [go_sem, List.getElem?_toArray, str_beq, reduceCtorEq, Nat.reduceEqDiff, Nat.reduceLT, Nat.reduceLeDiff, Nat.reduceAdd, Nat.reduceMul, Nat.reduceSub, Nat.reduceBEq, ↓reduceIte, bne_self_eq_false, Bool.and_false, Bool.false_and, Bool.true_or, Bool.false_or, a1, a2, a3, a4, a5, shut_col]
         simp only [go_sem, List.getElem?_toArray, str_beq, reduceCtorEq, Nat.reduceEqDiff, Nat.reduceLT, Nat.reduceLeDiff, Nat.reduceAdd, Nat.reduceMul, Nat.reduceSub, Nat.reduceBEq, ↓reduceIte, bne_self_eq_false, Bool.and_false, Bool.false_and, Bool.true_or, Bool.false_or, a1, a2, a3, a4, a5])
      | (refine call_of (cB) ?_ ?_
         · first | rfl | simp only [go_sem, List.getElem?_toArray, str_beq, reduceCtorEq, Nat.reduceEqDiff, Nat.reduceLT, Nat.reduceLeDiff, Nat.reduceAdd, Nat.reduceMul, Nat.reduceSub, Nat.reduceBEq, ↓reduceIte, bne_self_eq_false, Bool.and_false, Bool.false_and, Bool.true_or, Bool.false_or, a1, a2, a3, a4, a5, shut_col]
         simp only [go_sem, List.getElem?_toArray, str_beq, reduceCtorEq, Nat.reduceEqDiff, Nat.reduceLT, Nat.reduceLeDiff, Nat.reduceAdd, Nat.reduceMul, Nat.reduceSub, Nat.reduceBEq, ↓reduceIte, bne_self_eq_false, Bool.and_false, Bool.false_and, Bool.true_or, Bool.false_or, a1, a2, a3, a4, a5])
      | refine k_of (by assumption) ?_
      | refine tr_block ?_
      | refine tr_scope ?_
      | (refine tr_skip ?_; try simp only [ex_seq, ex_block])
      | (refine tr_label ?_; try simp only [ex_seq, ex_block])
      | (refine tr_exit ?_; try simp only [ex_seq_exit, ex_block_exit, Nat.reduceEqDiff, if_true, if_false, ex_seq, ex_block, reduceCtorEq, ↓reduceIte])
      | (refine tr_ret ?_; try simp only [ex_seq_ret, ex_block_ret]))
  refine (hQ _ _ [sA (pGrant g)] ?_ (fun m => ?_)).2 <;> simp only [go_sem, List.getElem?_toArray, str_beq, reduceCtorEq, Nat.reduceEqDiff, Nat.reduceLT, Nat.reduceLeDiff, Nat.reduceAdd, Nat.reduceMul, Nat.reduceSub, Nat.reduceBEq, ↓reduceIte, bne_self_eq_false, Bool.and_false, Bool.false_and, Bool.true_or, Bool.false_or, Tryd.f22,]
def rclrK (c : Clr) : Nat → ByteArray
  | 0 => (tClr ++ c.who) ++ tCol
  | k + 1 => match c.reads[k]? with
    | some s => ((if k = 0 then rclrK c k else rclrK c k ++ ⟨#[44]⟩) ++ tSp) ++ s
    | none => rclrK c k
theorem rclrK_next {c : Clr} {k : Nat} (h : k < c.reads.length) : rclrK c (k + 1) = ((if k = 0 then rclrK c k else rclrK c k ++ ⟨#[44]⟩) ++ tSp) ++ c.reads[k] := by
  rw [rclrK, List.getElem?_eq_getElem h]
theorem joinB_one (s sep : ByteArray) : joinB [s] sep = s := by
  unfold joinB
  apply ByteArray.ext
  simp [Lib.join]
theorem rclrK_join (c : Clr) : ∀ k, 0 < k → k ≤ c.reads.length → rclrK c k = ((tClr ++ c.who) ++ tCol) ++ (tSp ++ joinB (c.reads.take k) tComma)
  | 0, h, _ => absurd h (Nat.lt_irrefl 0)
  | k + 1, _, hk => by
    rw [rclrK_next (by omega)]
    by_cases h0 : k = 0
    · subst h0
      have : c.reads.take 1 = [c.reads[0]] := by
        match hc : c.reads, hk with
        | x :: r, _ => simp [hc]
      rw [if_pos rfl, this, joinB_one]
      simp only [rclrK, ByteArray.append_assoc]
    · rw [if_neg h0, rclrK_join c k (by omega) (by omega), List.take_succ_eq_append_getElem (by omega), join_snoc _ _ _ (by
        intro e
        have := congrArg List.length e
        rw [List.length_take, List.length_nil] at this
        omega)]
      have e : tComma = (⟨#[44]⟩ : ByteArray) ++ tSp := by decide
      rw [e]
      simp only [ByteArray.append_assoc]
theorem rclrK_size {c : Clr} (h : ∀ s ∈ c.reads, s.size ≤ 1000000) (hw : c.who.size ≤ 1000000) : ∀ k, (rclrK c k).size ≤ 1000007 + k * 1000002
  | 0 => by
    have z1 : tClr.size = 6 := rfl
    have z2 : tCol.size = 1 := rfl
    simp only [rclrK, app_size]; omega
  | k + 1 => by
    have ih := rclrK_size h hw k
    have z3 : tSp.size = 1 := rfl
    have z4 : (⟨#[44]⟩ : ByteArray).size = 1 := rfl
    generalize hn : (1000007 : Nat) = A at *
    generalize hm : (1000002 : Nat) = B at *
    have hsm : (k + 1) * B = k * B + B := Nat.succ_mul k B
    unfold rclrK
    cases hs : c.reads[k]? with
    | none => dsimp only; omega
    | some s =>
      have := h s (List.mem_of_getElem? hs)
      dsimp only
      split
      · simp only [app_size]; omega
      · simp only [app_size]; omega
theorem rclr_eq (c : Clr) : rclrK c c.reads.length = pClear c := by
  unfold pClear
  by_cases h0 : c.reads.length = 0
  · rw [if_pos h0, app_e, h0]
    rfl
  · rw [if_neg h0, rclrK_join c _ (by omega) (Nat.le_refl _), List.take_of_length_le (Nat.le_refl _)]
theorem rclear_does (c : Clr) (h1 : c.who.size ≤ 1000000) (h2 : c.reads.length ≤ 1000) (h3 : ∀ s ∈ c.reads, s.size ≤ 1000000) : Does Tryd.prog 23 [clA c] (fun m => (sA (pClear c), m)) := by
  have z1 : tClr.size = 6 := rfl
  have z2 : tCol.size = 1 := rfl
  have z3 : tSp.size = 1 := rfl
  have z4 : (⟨#[44]⟩ : ByteArray).size = 1 := rfl
  have a1 := sadd (a := tClr) (b := c.who) (n := 10000000) (by omega) (by decide)
  have a2 := sadd (a := tClr ++ c.who) (b := tCol) (n := 10000000) (by rw [app_size]; omega) (by decide)
  refine does_of' Tryd.func23 rfl (by kernel_rfl) rfl Tryd.ntmps23 rfl rfl fun Q hQ => ?_
  repeat (first
      | refine tr_seq_k fun _ _ => ?_
      | (refine tr_region ?_; simp only [go_sem, List.getElem?_toArray, str_beq, reduceCtorEq, Nat.reduceEqDiff, Nat.reduceLT, Nat.reduceLeDiff, Nat.reduceAdd, Nat.reduceMul, Nat.reduceSub, Nat.reduceBEq, ↓reduceIte, bne_self_eq_false, Bool.and_false, Bool.false_and, Bool.true_or, Bool.false_or, a1, a2])
      | refine k_of (by assumption) ?_
      | refine tr_block ?_
      | refine tr_scope ?_
      | (refine tr_skip ?_; try simp only [ex_seq, ex_block])
      | (refine tr_label ?_; try simp only [ex_seq, ex_block])
      | (refine tr_exit ?_; try simp only [ex_seq_exit, ex_block_exit, Nat.reduceEqDiff, if_true, if_false, ex_seq, ex_block, reduceCtorEq, ↓reduceIte])
      | (refine tr_ret ?_; try simp only [ex_seq_ret, ex_block_ret]))
  refine tr_loop_k (σ := Nat) (fun k => [(1, .ptr 0 0), (3, sA (rclrK c k)), (4, iA k)]) (fun _ => ⟨[⟨false, [.c (.v (.string c.who)), .c (slC stC c.ex c.reads)]⟩], []⟩) (fun k => k ≤ c.reads.length) (fun k => c.reads.length - k) 0 (Nat.zero_le _) ⟨rfl, rfl, rfl, trivial⟩ rfl ?_
  rintro k hk K hK
  by_cases hkl : k < c.reads.length
  · have d1 : decide ((k : Int) < (c.reads.length : Nat)) = true := decide_eq_true (by omega)
    have ix := idxS2 (ex := c.ex) hkl
    have ws := wrap_succ (show k ≤ 1000000000 by omega)
    have hn := rclrK_next hkl
    have hb := rclrK_size h3 h1 k
    have hb2 : k * 1000002 ≤ 1000 * 1000002 := Nat.mul_le_mul_right _ (by omega)
    have hs := h3 c.reads[k] (List.getElem_mem hkl)
    generalize c.reads[k] = s at *
    by_cases h0 : k = 0
    · have d2 : decide (((k : Nat) : Int) > 0) = false := decide_eq_false (by omega)
      have a3 := sadd (a := rclrK c k) (b := tSp) (n := 100000000000) (by omega) (by decide)
      have a4 := sadd (a := rclrK c k ++ tSp) (b := s) (n := 100000000000) (by rw [app_size]; omega) (by decide)
      rw [if_pos h0] at hn
      repeat (first
          | refine tr_seq_k fun _ _ => ?_
          | (refine tr_region ?_; simp only [go_sem, List.getElem?_toArray, str_beq, reduceCtorEq, Nat.reduceEqDiff, Nat.reduceLT, Nat.reduceLeDiff, Nat.reduceAdd, Nat.reduceMul, Nat.reduceSub, Nat.reduceBEq, ↓reduceIte, bne_self_eq_false, Bool.and_false, Bool.false_and, Bool.true_or, Bool.false_or, d1])
          | refine k_of (by assumption) ?_
          | refine tr_block ?_
          | refine tr_scope ?_
          | (refine tr_skip ?_; try simp only [ex_seq, ex_block])
          | (refine tr_label ?_; try simp only [ex_seq, ex_block])
          | (refine tr_exit ?_; try simp only [ex_seq_exit, ex_block_exit, Nat.reduceEqDiff, if_true, if_false, ex_seq, ex_block, reduceCtorEq, ↓reduceIte])
          | (refine tr_ret ?_; try simp only [ex_seq_ret, ex_block_ret]))
      refine tr_cond rfl (fun ht => ?_) (fun hf => ?_)
      · repeat (first
            | refine tr_seq_k fun _ _ => ?_
            | (refine tr_region ?_; simp only [go_sem, List.getElem?_toArray, str_beq, reduceCtorEq, Nat.reduceEqDiff, Nat.reduceLT, Nat.reduceLeDiff, Nat.reduceAdd, Nat.reduceMul, Nat.reduceSub, Nat.reduceBEq, ↓reduceIte, bne_self_eq_false, Bool.and_false, Bool.false_and, Bool.true_or, Bool.false_or, d2])
            | refine k_of (by assumption) ?_
            | refine tr_block ?_
            | refine tr_scope ?_
            | (refine tr_skip ?_; try simp only [ex_seq, ex_block])
            | (refine tr_label ?_; try simp only [ex_seq, ex_block])
            | (refine tr_exit ?_; try simp only [ex_seq_exit, ex_block_exit, Nat.reduceEqDiff, if_true, if_false, ex_seq, ex_block, reduceCtorEq, ↓reduceIte])
            | (refine tr_ret ?_; try simp only [ex_seq_ret, ex_block_ret]))
        refine tr_cond rfl (fun ht => ?_) (fun hf => ?_)
        · cases ht
        · repeat (first
              | refine tr_seq_k fun _ _ => ?_
              | (refine tr_region ?_; simp only [go_sem, List.getElem?_toArray, str_beq, reduceCtorEq, Nat.reduceEqDiff, Nat.reduceLT, Nat.reduceLeDiff, Nat.reduceAdd, Nat.reduceMul, Nat.reduceSub, Nat.reduceBEq, ↓reduceIte, bne_self_eq_false, Bool.and_false, Bool.false_and, Bool.true_or, Bool.false_or, ix, ws, a3, a4])
              | refine k_of (by assumption) ?_
              | refine tr_block ?_
              | refine tr_scope ?_
              | (refine tr_skip ?_; try simp only [ex_seq, ex_block])
              | (refine tr_label ?_; try simp only [ex_seq, ex_block])
              | (refine tr_exit ?_; try simp only [ex_seq_exit, ex_block_exit, Nat.reduceEqDiff, if_true, if_false, ex_seq, ex_block, reduceCtorEq, ↓reduceIte])
              | (refine tr_ret ?_; try simp only [ex_seq_ret, ex_block_ret]))
          exact hK (k + 1) _ _ hkl ⟨⟨rfl, by rw [hn]; rfl, rfl, trivial⟩, Keep.refl _, rfl, rfl, Nat.le_refl _, Nat.le_refl _⟩ (by omega)
      · cases hf
    · have d2 : decide (((k : Nat) : Int) > 0) = true := decide_eq_true (by omega)
      have a0 := sadd (a := rclrK c k) (b := ⟨#[44]⟩) (n := 100000000000) (by omega) (by decide)
      have a3 := sadd (a := rclrK c k ++ ⟨#[44]⟩) (b := tSp) (n := 100000000000) (by rw [app_size]; omega) (by decide)
      have a4 := sadd (a := (rclrK c k ++ ⟨#[44]⟩) ++ tSp) (b := s) (n := 100000000000) (by rw [app_size, app_size]; omega) (by decide)
      rw [if_neg h0] at hn
      repeat (first
          | refine tr_seq_k fun _ _ => ?_
          | (refine tr_region ?_; simp only [go_sem, List.getElem?_toArray, str_beq, reduceCtorEq, Nat.reduceEqDiff, Nat.reduceLT, Nat.reduceLeDiff, Nat.reduceAdd, Nat.reduceMul, Nat.reduceSub, Nat.reduceBEq, ↓reduceIte, bne_self_eq_false, Bool.and_false, Bool.false_and, Bool.true_or, Bool.false_or, d1])
          | refine k_of (by assumption) ?_
          | refine tr_block ?_
          | refine tr_scope ?_
          | (refine tr_skip ?_; try simp only [ex_seq, ex_block])
          | (refine tr_label ?_; try simp only [ex_seq, ex_block])
          | (refine tr_exit ?_; try simp only [ex_seq_exit, ex_block_exit, Nat.reduceEqDiff, if_true, if_false, ex_seq, ex_block, reduceCtorEq, ↓reduceIte])
          | (refine tr_ret ?_; try simp only [ex_seq_ret, ex_block_ret]))
      refine tr_cond rfl (fun ht => ?_) (fun hf => ?_)
      · repeat (first
            | refine tr_seq_k fun _ _ => ?_
            | (refine tr_region ?_; simp only [go_sem, List.getElem?_toArray, str_beq, reduceCtorEq, Nat.reduceEqDiff, Nat.reduceLT, Nat.reduceLeDiff, Nat.reduceAdd, Nat.reduceMul, Nat.reduceSub, Nat.reduceBEq, ↓reduceIte, bne_self_eq_false, Bool.and_false, Bool.false_and, Bool.true_or, Bool.false_or, d2])
            | refine k_of (by assumption) ?_
            | refine tr_block ?_
            | refine tr_scope ?_
            | (refine tr_skip ?_; try simp only [ex_seq, ex_block])
            | (refine tr_label ?_; try simp only [ex_seq, ex_block])
            | (refine tr_exit ?_; try simp only [ex_seq_exit, ex_block_exit, Nat.reduceEqDiff, if_true, if_false, ex_seq, ex_block, reduceCtorEq, ↓reduceIte])
            | (refine tr_ret ?_; try simp only [ex_seq_ret, ex_block_ret]))
        refine tr_cond rfl (fun ht => ?_) (fun hf => ?_)
        · repeat (first
              | refine tr_seq_k fun _ _ => ?_
              | (refine tr_region ?_; simp only [go_sem, List.getElem?_toArray, str_beq, reduceCtorEq, Nat.reduceEqDiff, Nat.reduceLT, Nat.reduceLeDiff, Nat.reduceAdd, Nat.reduceMul, Nat.reduceSub, Nat.reduceBEq, ↓reduceIte, bne_self_eq_false, Bool.and_false, Bool.false_and, Bool.true_or, Bool.false_or, ix, ws, a0, a3, a4])
              | refine k_of (by assumption) ?_
              | refine tr_block ?_
              | refine tr_scope ?_
              | (refine tr_skip ?_; try simp only [ex_seq, ex_block])
              | (refine tr_label ?_; try simp only [ex_seq, ex_block])
              | (refine tr_exit ?_; try simp only [ex_seq_exit, ex_block_exit, Nat.reduceEqDiff, if_true, if_false, ex_seq, ex_block, reduceCtorEq, ↓reduceIte])
              | (refine tr_ret ?_; try simp only [ex_seq_ret, ex_block_ret]))
          exact hK (k + 1) _ _ hkl ⟨⟨rfl, by rw [hn]; rfl, rfl, trivial⟩, Keep.refl _, rfl, rfl, Nat.le_refl _, Nat.le_refl _⟩ (by omega)
        · cases hf
      · cases hf
  · have d1 : decide ((k : Int) < (c.reads.length : Nat)) = false := decide_eq_false (by omega)
    obtain rfl : k = c.reads.length := by omega
    repeat (first
        | refine tr_seq_k fun _ _ => ?_
        | (refine tr_region ?_; simp only [go_sem, List.getElem?_toArray, str_beq, reduceCtorEq, Nat.reduceEqDiff, Nat.reduceLT, Nat.reduceLeDiff, Nat.reduceAdd, Nat.reduceMul, Nat.reduceSub, Nat.reduceBEq, ↓reduceIte, bne_self_eq_false, Bool.and_false, Bool.false_and, Bool.true_or, Bool.false_or, d1])
        | refine k_of (by assumption) ?_
        | refine tr_block ?_
        | refine tr_scope ?_
        | (refine tr_skip ?_; try simp only [ex_seq, ex_block])
        | (refine tr_label ?_; try simp only [ex_seq, ex_block])
        | (refine tr_exit ?_; try simp only [ex_seq_exit, ex_block_exit, Nat.reduceEqDiff, if_true, if_false, ex_seq, ex_block, reduceCtorEq, ↓reduceIte])
        | (refine tr_ret ?_; try simp only [ex_seq_ret, ex_block_ret]))
    refine tr_cond rfl (fun ht => ?_) (fun hf => ?_)
    · cases ht
    · repeat (first
          | refine tr_seq_k fun _ _ => ?_
          | (refine tr_region ?_; simp only [go_sem, List.getElem?_toArray, str_beq, reduceCtorEq, Nat.reduceEqDiff, Nat.reduceLT, Nat.reduceLeDiff, Nat.reduceAdd, Nat.reduceMul, Nat.reduceSub, Nat.reduceBEq, ↓reduceIte, bne_self_eq_false, Bool.and_false, Bool.false_and, Bool.true_or, Bool.false_or])
          | refine k_of (by assumption) ?_
          | refine tr_block ?_
          | refine tr_scope ?_
          | (refine tr_skip ?_; try simp only [ex_seq, ex_block])
          | (refine tr_label ?_; try simp only [ex_seq, ex_block])
          | (refine tr_exit ?_; try simp only [ex_seq_exit, ex_block_exit, Nat.reduceEqDiff, if_true, if_false, ex_seq, ex_block, reduceCtorEq, ↓reduceIte])
          | (refine tr_ret ?_; try simp only [ex_seq_ret, ex_block_ret]))
      refine (hQ _ _ [sA (pClear c)] ?_ (fun m => ?_)).2 <;> simp only [go_sem, List.getElem?_toArray, str_beq, reduceCtorEq, Nat.reduceEqDiff, Nat.reduceLT, Nat.reduceLeDiff, Nat.reduceAdd, Nat.reduceMul, Nat.reduceSub, Nat.reduceBEq, ↓reduceIte, bne_self_eq_false, Bool.and_false, Bool.false_and, Bool.true_or, Bool.false_or, Tryd.f23, rclr_eq]
theorem rgoal_does (a : Atm) (h : AtSz a) : Does Tryd.prog 25 [atA a] (fun m => (sA (ptext a ++ tQ), m)) := by
  have hz := ptext_size h
  have cT := r3text_does a h
  have z1 : tQ.size = 1 := rfl
  have a1 := sadd (a := ptext a) (b := tQ) (n := 100000000) (by omega) (by decide)
  refine does_of' Tryd.func25 rfl (by kernel_rfl) rfl Tryd.ntmps25 rfl rfl fun Q hQ => ?_
  repeat (first
      | refine tr_seq_k fun _ _ => ?_
      | (refine tr_region ?_; simp only [go_sem, List.getElem?_toArray, str_beq, reduceCtorEq, Nat.reduceEqDiff, Nat.reduceLT, Nat.reduceLeDiff, Nat.reduceAdd, Nat.reduceMul, Nat.reduceSub, Nat.reduceBEq, ↓reduceIte, bne_self_eq_false, Bool.and_false, Bool.false_and, Bool.true_or, Bool.false_or, a1])
      | (refine call_of (cT) ?_ ?_
         · first | rfl | simp only [go_sem, List.getElem?_toArray, str_beq, reduceCtorEq, Nat.reduceEqDiff, Nat.reduceLT, Nat.reduceLeDiff, Nat.reduceAdd, Nat.reduceMul, Nat.reduceSub, Nat.reduceBEq, ↓reduceIte, bne_self_eq_false, Bool.and_false, Bool.false_and, Bool.true_or, Bool.false_or, a1, shut_col]
         simp only [go_sem, List.getElem?_toArray, str_beq, reduceCtorEq, Nat.reduceEqDiff, Nat.reduceLT, Nat.reduceLeDiff, Nat.reduceAdd, Nat.reduceMul, Nat.reduceSub, Nat.reduceBEq, ↓reduceIte, bne_self_eq_false, Bool.and_false, Bool.false_and, Bool.true_or, Bool.false_or, a1])
      | refine k_of (by assumption) ?_
      | refine tr_block ?_
      | refine tr_scope ?_
      | (refine tr_skip ?_; try simp only [ex_seq, ex_block])
      | (refine tr_label ?_; try simp only [ex_seq, ex_block])
      | (refine tr_exit ?_; try simp only [ex_seq_exit, ex_block_exit, Nat.reduceEqDiff, if_true, if_false, ex_seq, ex_block, reduceCtorEq, ↓reduceIte])
      | (refine tr_ret ?_; try simp only [ex_seq_ret, ex_block_ret]))
  refine (hQ _ _ [sA (ptext a ++ tQ)] ?_ (fun m => ?_)).2 <;> simp only [go_sem, List.getElem?_toArray, str_beq, reduceCtorEq, Nat.reduceEqDiff, Nat.reduceLT, Nat.reduceLeDiff, Nat.reduceAdd, Nat.reduceMul, Nat.reduceSub, Nat.reduceBEq, ↓reduceIte, bne_self_eq_false, Bool.and_false, Bool.false_and, Bool.true_or, Bool.false_or, Tryd.f25,]
end Go.Proofs.YtaeehadibckcjaaDoor

/-
  Chapter 11: the document's answer: a policy's text.
-/
namespace Go.Proofs.YtaeehadibckcjaaDoor
open Go.RowKit Go.Vs Go.Vs.Ab
set_option maxRecDepth 100000
set_option maxHeartbeats 4000000
theorem rpol_does (p : Pol) (hk : PolOk p) (hrd : ∀ c ∈ p.clears, ∀ s ∈ c.reads, s.size ≤ 1000000) : Does Tryd.prog 24 [poA p] (fun m => (sA (pPolicy p), m)) := by
  have z1 : tPrin.size = 10 := rfl
  have z2 : tPred.size = 5 := rfl
  have z3 : tSl.size = 1 := rfl
  have z4 : tQuo.size = 6 := rfl
  have z5 : tBud.size = 7 := rfl
  have zD : tDot.size = 2 := rfl
  have iq := itoaB_size p.quota hk.quota.1 hk.quota.2
  have ib := itoaB_size p.budget hk.budget.1 hk.budget.2
  have hs1 : ∀ x ∈ p.prin, (catB (prPrin x)).size ≤ 2000000000 := fun x hx => by
    have hx := hk.prin.2 x hx; rw [prPrin, cat2, app_size]; omega
  have q1 := fun k => cum_size hs1 k
  have r1 : ∀ k, k ≤ p.prin.length → k * 2000000002 ≤ 1000 * 2000000002 := fun k hkk => Nat.mul_le_mul_right _ (Nat.le_trans hkk hk.prin.1)
  have hs2 : ∀ x ∈ p.preds, (catB (prPred x)).size ≤ 2000000000 := fun x hx => by
    have hx := hk.preds.2 x hx; have := itoaB_size x.ar hx.2.1 hx.2.2; rw [prPred, cat4]; omega
  have q2 := fun k => cum_size hs2 k
  have r2 : ∀ k, k ≤ p.preds.length → k * 2000000002 ≤ 1000 * 2000000002 := fun k hkk => Nat.mul_le_mul_right _ (Nat.le_trans hkk hk.preds.1)
  have hs3 : ∀ x ∈ p.clears, (catB (prClr x)).size ≤ 2000000000 := fun x hx => by
    have hx := hk.clears.2 x hx; rw [prClr, cat1]; have := pClear_size x hx.1 hx.2.2; omega
  have q3 := fun k => cum_size hs3 k
  have r3 : ∀ k, k ≤ p.clears.length → k * 2000000002 ≤ 1000 * 2000000002 := fun k hkk => Nat.mul_le_mul_right _ (Nat.le_trans hkk hk.clears.1)
  have hs4 : ∀ x ∈ p.rules, (catB (prRul x)).size ≤ 2000000000 := fun x hx => by
    have hx := hk.rules.2 x hx; rw [prRul, cat1, pRule, app_size]; have := pbody_size hx.2.1 hx.2.2; have := ptext_size hx.1; omega
  have q4 := fun k => cum_size hs4 k
  have r4 : ∀ k, k ≤ p.rules.length → k * 2000000002 ≤ 1000 * 2000000002 := fun k hkk => Nat.mul_le_mul_right _ (Nat.le_trans hkk hk.rules.1)
  have hs5 : ∀ x ∈ p.grants, (catB (prGrt x)).size ≤ 2000000000 := fun x hx => by
    have hx := hk.grants.2 x hx; rw [prGrt, cat1]; have := pGrant_size x hx.1 hx.2.1 hx.2.2.1 hx.2.2.2; omega
  have q5 := fun k => cum_size hs5 k
  have r5 : ∀ k, k ≤ p.grants.length → k * 2000000002 ≤ 1000 * 2000000002 := fun k hkk => Nat.mul_le_mul_right _ (Nat.le_trans hkk hk.grants.1)
  obtain ⟨T1, hT1⟩ : ∃ T : ByteArray, T = all_ p.prin prPrin := ⟨_, rfl⟩
  obtain ⟨T2, hT2⟩ : ∃ T : ByteArray, T = T1 ++ all_ p.preds prPred := ⟨_, rfl⟩
  obtain ⟨T3, hT3⟩ : ∃ T : ByteArray, T = T2 ++ all_ p.clears prClr := ⟨_, rfl⟩
  obtain ⟨T4, hT4⟩ : ∃ T : ByteArray, T = (T3 ++ ((tQuo ++ itoaB p.quota) ++ tDot)) ++ ((tBud ++ itoaB p.budget) ++ tDot) := ⟨_, rfl⟩
  obtain ⟨T5, hT5⟩ : ∃ T : ByteArray, T = T4 ++ all_ p.rules prRul := ⟨_, rfl⟩
  have hT6 : T5 ++ all_ p.grants prGrt = pPolicy p := by rw [hT5, hT4, hT3, hT2, hT1, pPolicy]
  have s1 : T1.size ≤ 3000000000000 := by rw [hT1]; have := q1 _ (Nat.le_refl _); have := r1 _ (Nat.le_refl _); unfold all_; omega
  have s2 : T2.size ≤ 6000000000000 := by rw [hT2, app_size]; have := q2 _ (Nat.le_refl _); have := r2 _ (Nat.le_refl _); unfold all_; omega
  have s3 : T3.size ≤ 9000000000000 := by rw [hT3, app_size]; have := q3 _ (Nat.le_refl _); have := r3 _ (Nat.le_refl _); unfold all_; omega
  have s4 : T4.size ≤ 9000000001000 := by rw [hT4]; simp only [app_size]; omega
  have s5 : T5.size ≤ 12000000001000 := by rw [hT5, app_size]; have := q4 _ (Nat.le_refl _); have := r4 _ (Nat.le_refl _); unfold all_; omega
  have cQ := num_does p.quota hk.quota.1 hk.quota.2
  have cB := num_does p.budget hk.budget.1 hk.budget.2
  have u1 := sadd (a := T3) (b := tQuo) (n := 100000000000000) (by omega) (by decide)
  have u2 := sadd (a := T3 ++ tQuo) (b := itoaB p.quota) (n := 100000000000000) (by simp only [app_size]; omega) (by decide)
  have u3 := sadd (a := (T3 ++ tQuo) ++ itoaB p.quota) (b := ⟨#[46, 10, 98, 117, 100, 103, 101, 116, 32]⟩) (n := 100000000000000) (by have : (⟨#[46, 10, 98, 117, 100, 103, 101, 116, 32]⟩ : ByteArray).size = 9 := rfl; simp only [app_size]; omega) (by decide)
  have u4 := sadd (a := ((T3 ++ tQuo) ++ itoaB p.quota) ++ ⟨#[46, 10, 98, 117, 100, 103, 101, 116, 32]⟩) (b := itoaB p.budget) (n := 100000000000000) (by have : (⟨#[46, 10, 98, 117, 100, 103, 101, 116, 32]⟩ : ByteArray).size = 9 := rfl; simp only [app_size]; omega) (by decide)
  have u5 := sadd (a := (((T3 ++ tQuo) ++ itoaB p.quota) ++ ⟨#[46, 10, 98, 117, 100, 103, 101, 116, 32]⟩) ++ itoaB p.budget) (b := tDot) (n := 100000000000000) (by have : (⟨#[46, 10, 98, 117, 100, 103, 101, 116, 32]⟩ : ByteArray).size = 9 := rfl; simp only [app_size]; omega) (by decide)
  have hu : ((((T3 ++ tQuo) ++ itoaB p.quota) ++ ⟨#[46, 10, 98, 117, 100, 103, 101, 116, 32]⟩) ++ itoaB p.budget) ++ tDot = T4 := by
    have e : (⟨#[46, 10, 98, 117, 100, 103, 101, 116, 32]⟩ : ByteArray) = tDot ++ tBud := by decide
    rw [hT4, e]
    simp only [ByteArray.append_assoc]
  rw [hu] at u5
  have v1 : T1 = ⟨#[]⟩ ++ cum p.prin prPrin p.prin.length := by rw [hT1, none_app rfl]; rfl
  have v2 : T2 = T1 ++ cum p.preds prPred p.preds.length := hT2
  have v3 : T3 = T2 ++ cum p.clears prClr p.clears.length := hT3
  have v5 : T5 = T4 ++ cum p.rules prRul p.rules.length := hT5
  have v6 : pPolicy p = T5 ++ cum p.grants prGrt p.grants.length := hT6.symm
  have z0 : (⟨#[]⟩ : ByteArray).size = 0 := rfl
  clear hT1 hT2 hT3 hT4 hT5 hT6 hu hs1 hs2 hs3 hs4 hs5
  refine does_of' Tryd.func24 rfl (by kernel_rfl) rfl Tryd.ntmps24 rfl rfl fun Q hQ => ?_
  repeat (first
      | refine tr_seq_k fun _ _ => ?_
      | (refine tr_region ?_; simp only [go_sem, List.getElem?_toArray, str_beq, reduceCtorEq, Nat.reduceEqDiff, Nat.reduceLT, Nat.reduceLeDiff, Nat.reduceAdd, Nat.reduceMul, Nat.reduceSub, Nat.reduceBEq, ↓reduceIte, bne_self_eq_false, Bool.and_false, Bool.false_and, Bool.true_or, Bool.false_or])
      | (refine tr_draw (id := 9) follows 10000 [16] [0, 1, 2, 3, 4, 5, 6, 7, 8, 9, 10, 11, 12, 13, 14, 15, 16, 17, 18, 19] (by kernel_rfl) ?_; simp only [go_sem, List.getElem?_toArray, str_beq, reduceCtorEq, Nat.reduceEqDiff, Nat.reduceLT, Nat.reduceLeDiff, Nat.reduceAdd, Nat.reduceMul, Nat.reduceSub, Nat.reduceBEq, ↓reduceIte, bne_self_eq_false, Bool.and_false, Bool.false_and, Bool.true_or, Bool.false_or])
      | (refine tr_draw (id := 14) follows 10000 [4, 9] [0, 1, 2, 3, 7, 8, 4, 5, 6, 9, 10, 11, 12] (by kernel_rfl) ?_; simp only [go_sem, List.getElem?_toArray, str_beq, reduceCtorEq, Nat.reduceEqDiff, Nat.reduceLT, Nat.reduceLeDiff, Nat.reduceAdd, Nat.reduceMul, Nat.reduceSub, Nat.reduceBEq, ↓reduceIte, bne_self_eq_false, Bool.and_false, Bool.false_and, Bool.true_or, Bool.false_or])
      | refine k_of (by assumption) ?_
      | refine tr_block ?_
      | refine tr_scope ?_
      | (refine tr_skip ?_; try simp only [ex_seq, ex_block])
      | (refine tr_label ?_; try simp only [ex_seq, ex_block])
      | (refine tr_exit ?_; try simp only [ex_seq_exit, ex_block_exit, Nat.reduceEqDiff, if_true, if_false, ex_seq, ex_block, reduceCtorEq, ↓reduceIte])
      | (refine tr_ret ?_; try simp only [ex_seq_ret, ex_block_ret]))
  refine tr_loop_k (σ := Nat) (fun k => [(1, .ptr 0 0), (3, sA ((⟨#[]⟩ : ByteArray) ++ cum p.prin prPrin k)), (4, iA k)]) (fun _ => ⟨[⟨false, [.c (slC stC p.e1 p.prin), .c (slC prC p.e2 p.preds), .c (slC clC p.e3 p.clears), iA p.quota, iA p.budget, .c (slC ruC p.e4 p.rules), .c (slC grC p.e5 p.grants)]⟩], []⟩) (fun k => k ≤ p.prin.length) (fun k => p.prin.length - k) 0 (Nat.zero_le _) ⟨rfl, by rw [cum_zero, app_e]; rfl, rfl, trivial⟩ rfl ?_
  rintro k hkk K hK
  by_cases hkl : k < p.prin.length
  · have d1 : decide ((k : Int) < (p.prin.length : Nat)) = true := decide_eq_true (by omega)
    have ix := idxS2 (ex := p.e1) hkl
    have ws := wrap_succ (show k ≤ 1000000000 by have := hk.prin.1; omega)
    have hx := hk.prin.2 p.prin[k] (List.getElem_mem hkl)
    have hn := cum_next prPrin hkl
    have hq := q1 k (by omega)
    have hr := r1 k (by omega)
    generalize p.prin[k] = x at *
    generalize hW : (⟨#[]⟩ : ByteArray) ++ cum p.prin prPrin k = W at *
    have hWs : W.size ≤ 90000000000000 := by rw [← hW, app_size]; omega
    have a0 := sadd (a := W) (b := tPrin) (n := 100000000000000) (by (try simp only [app_size]); omega) (by decide)
    have a1 := sadd (a := (W ++ tPrin)) (b := x) (n := 100000000000000) (by (try simp only [app_size]); omega) (by decide)
    have a2 := sadd (a := ((W ++ tPrin) ++ x)) (b := tDot) (n := 100000000000000) (by (try simp only [app_size]); omega) (by decide)
    have hW2 : (((W ++ tPrin) ++ x) ++ tDot) = (⟨#[]⟩ : ByteArray) ++ cum p.prin prPrin (k + 1) := by
      rw [hn, ← ByteArray.append_assoc, hW]
      show _ = W ++ ((tPrin ++ (x ++ (⟨#[]⟩ : ByteArray))) ++ tDot)
      rw [app_e]
      simp only [ByteArray.append_assoc]
    repeat (first
        | refine tr_seq_k fun _ _ => ?_
        | (refine tr_region ?_; simp only [go_sem, List.getElem?_toArray, str_beq, reduceCtorEq, Nat.reduceEqDiff, Nat.reduceLT, Nat.reduceLeDiff, Nat.reduceAdd, Nat.reduceMul, Nat.reduceSub, Nat.reduceBEq, ↓reduceIte, bne_self_eq_false, Bool.and_false, Bool.false_and, Bool.true_or, Bool.false_or, d1])
        | (refine tr_draw (id := 9) follows 10000 [16] [0, 1, 2, 3, 4, 5, 6, 7, 8, 9, 10, 11, 12, 13, 14, 15, 16, 17, 18, 19] (by kernel_rfl) ?_; simp only [go_sem, List.getElem?_toArray, str_beq, reduceCtorEq, Nat.reduceEqDiff, Nat.reduceLT, Nat.reduceLeDiff, Nat.reduceAdd, Nat.reduceMul, Nat.reduceSub, Nat.reduceBEq, ↓reduceIte, bne_self_eq_false, Bool.and_false, Bool.false_and, Bool.true_or, Bool.false_or, d1])
        | (refine tr_draw (id := 14) follows 10000 [4, 9] [0, 1, 2, 3, 7, 8, 4, 5, 6, 9, 10, 11, 12] (by kernel_rfl) ?_; simp only [go_sem, List.getElem?_toArray, str_beq, reduceCtorEq, Nat.reduceEqDiff, Nat.reduceLT, Nat.reduceLeDiff, Nat.reduceAdd, Nat.reduceMul, Nat.reduceSub, Nat.reduceBEq, ↓reduceIte, bne_self_eq_false, Bool.and_false, Bool.false_and, Bool.true_or, Bool.false_or, d1])
        | refine k_of (by assumption) ?_
        | refine tr_block ?_
        | refine tr_scope ?_
        | (refine tr_skip ?_; try simp only [ex_seq, ex_block])
        | (refine tr_label ?_; try simp only [ex_seq, ex_block])
        | (refine tr_exit ?_; try simp only [ex_seq_exit, ex_block_exit, Nat.reduceEqDiff, if_true, if_false, ex_seq, ex_block, reduceCtorEq, ↓reduceIte])
        | (refine tr_ret ?_; try simp only [ex_seq_ret, ex_block_ret]))
    refine tr_cond rfl (fun ht => ?_) (fun hf => ?_)
    · repeat (first
          | refine tr_seq_k fun _ _ => ?_
          | (refine tr_region ?_; simp only [go_sem, List.getElem?_toArray, str_beq, reduceCtorEq, Nat.reduceEqDiff, Nat.reduceLT, Nat.reduceLeDiff, Nat.reduceAdd, Nat.reduceMul, Nat.reduceSub, Nat.reduceBEq, ↓reduceIte, bne_self_eq_false, Bool.and_false, Bool.false_and, Bool.true_or, Bool.false_or, ix, ws, a0, a1, a2])
          | (refine tr_draw (id := 9) follows 10000 [16] [0, 1, 2, 3, 4, 5, 6, 7, 8, 9, 10, 11, 12, 13, 14, 15, 16, 17, 18, 19] (by kernel_rfl) ?_; simp only [go_sem, List.getElem?_toArray, str_beq, reduceCtorEq, Nat.reduceEqDiff, Nat.reduceLT, Nat.reduceLeDiff, Nat.reduceAdd, Nat.reduceMul, Nat.reduceSub, Nat.reduceBEq, ↓reduceIte, bne_self_eq_false, Bool.and_false, Bool.false_and, Bool.true_or, Bool.false_or, ix, ws, a0, a1, a2])
          | (refine tr_draw (id := 14) follows 10000 [4, 9] [0, 1, 2, 3, 7, 8, 4, 5, 6, 9, 10, 11, 12] (by kernel_rfl) ?_; simp only [go_sem, List.getElem?_toArray, str_beq, reduceCtorEq, Nat.reduceEqDiff, Nat.reduceLT, Nat.reduceLeDiff, Nat.reduceAdd, Nat.reduceMul, Nat.reduceSub, Nat.reduceBEq, ↓reduceIte, bne_self_eq_false, Bool.and_false, Bool.false_and, Bool.true_or, Bool.false_or, ix, ws, a0, a1, a2])
          | refine k_of (by assumption) ?_
          | refine tr_block ?_
          | refine tr_scope ?_
          | (refine tr_skip ?_; try simp only [ex_seq, ex_block])
          | (refine tr_label ?_; try simp only [ex_seq, ex_block])
          | (refine tr_exit ?_; try simp only [ex_seq_exit, ex_block_exit, Nat.reduceEqDiff, if_true, if_false, ex_seq, ex_block, reduceCtorEq, ↓reduceIte])
          | (refine tr_ret ?_; try simp only [ex_seq_ret, ex_block_ret]))
      exact hK (k + 1) _ _ hkl ⟨⟨rfl, by rw [← hW2]; rfl, rfl, trivial⟩, Keep.refl _, rfl, rfl, Nat.le_refl _, Nat.le_refl _⟩ (by omega)
    · cases hf
  · have d1 : decide ((k : Int) < (p.prin.length : Nat)) = false := decide_eq_false (by omega)
    obtain rfl : k = p.prin.length := by omega
    rw [← v1]
    repeat (first
        | refine tr_seq_k fun _ _ => ?_
        | (refine tr_region ?_; simp only [go_sem, List.getElem?_toArray, str_beq, reduceCtorEq, Nat.reduceEqDiff, Nat.reduceLT, Nat.reduceLeDiff, Nat.reduceAdd, Nat.reduceMul, Nat.reduceSub, Nat.reduceBEq, ↓reduceIte, bne_self_eq_false, Bool.and_false, Bool.false_and, Bool.true_or, Bool.false_or, d1])
        | (refine tr_draw (id := 9) follows 10000 [16] [0, 1, 2, 3, 4, 5, 6, 7, 8, 9, 10, 11, 12, 13, 14, 15, 16, 17, 18, 19] (by kernel_rfl) ?_; simp only [go_sem, List.getElem?_toArray, str_beq, reduceCtorEq, Nat.reduceEqDiff, Nat.reduceLT, Nat.reduceLeDiff, Nat.reduceAdd, Nat.reduceMul, Nat.reduceSub, Nat.reduceBEq, ↓reduceIte, bne_self_eq_false, Bool.and_false, Bool.false_and, Bool.true_or, Bool.false_or, d1])
        | (refine tr_draw (id := 14) follows 10000 [4, 9] [0, 1, 2, 3, 7, 8, 4, 5, 6, 9, 10, 11, 12] (by kernel_rfl) ?_; simp only [go_sem, List.getElem?_toArray, str_beq, reduceCtorEq, Nat.reduceEqDiff, Nat.reduceLT, Nat.reduceLeDiff, Nat.reduceAdd, Nat.reduceMul, Nat.reduceSub, Nat.reduceBEq, ↓reduceIte, bne_self_eq_false, Bool.and_false, Bool.false_and, Bool.true_or, Bool.false_or, d1])
        | refine k_of (by assumption) ?_
        | refine tr_block ?_
        | refine tr_scope ?_
        | (refine tr_skip ?_; try simp only [ex_seq, ex_block])
        | (refine tr_label ?_; try simp only [ex_seq, ex_block])
        | (refine tr_exit ?_; try simp only [ex_seq_exit, ex_block_exit, Nat.reduceEqDiff, if_true, if_false, ex_seq, ex_block, reduceCtorEq, ↓reduceIte])
        | (refine tr_ret ?_; try simp only [ex_seq_ret, ex_block_ret]))
    refine tr_cond rfl (fun ht => ?_) (fun hf => ?_)
    · cases ht
    · repeat (first
          | refine tr_seq_k fun _ _ => ?_
          | (refine tr_region ?_; simp only [go_sem, List.getElem?_toArray, str_beq, reduceCtorEq, Nat.reduceEqDiff, Nat.reduceLT, Nat.reduceLeDiff, Nat.reduceAdd, Nat.reduceMul, Nat.reduceSub, Nat.reduceBEq, ↓reduceIte, bne_self_eq_false, Bool.and_false, Bool.false_and, Bool.true_or, Bool.false_or])
          | (refine tr_draw (id := 9) follows 10000 [16] [0, 1, 2, 3, 4, 5, 6, 7, 8, 9, 10, 11, 12, 13, 14, 15, 16, 17, 18, 19] (by kernel_rfl) ?_; simp only [go_sem, List.getElem?_toArray, str_beq, reduceCtorEq, Nat.reduceEqDiff, Nat.reduceLT, Nat.reduceLeDiff, Nat.reduceAdd, Nat.reduceMul, Nat.reduceSub, Nat.reduceBEq, ↓reduceIte, bne_self_eq_false, Bool.and_false, Bool.false_and, Bool.true_or, Bool.false_or])
          | (refine tr_draw (id := 14) follows 10000 [4, 9] [0, 1, 2, 3, 7, 8, 4, 5, 6, 9, 10, 11, 12] (by kernel_rfl) ?_; simp only [go_sem, List.getElem?_toArray, str_beq, reduceCtorEq, Nat.reduceEqDiff, Nat.reduceLT, Nat.reduceLeDiff, Nat.reduceAdd, Nat.reduceMul, Nat.reduceSub, Nat.reduceBEq, ↓reduceIte, bne_self_eq_false, Bool.and_false, Bool.false_and, Bool.true_or, Bool.false_or])
          | refine k_of (by assumption) ?_
          | refine tr_block ?_
          | refine tr_scope ?_
          | (refine tr_skip ?_; try simp only [ex_seq, ex_block])
          | (refine tr_label ?_; try simp only [ex_seq, ex_block])
          | (refine tr_exit ?_; try simp only [ex_seq_exit, ex_block_exit, Nat.reduceEqDiff, if_true, if_false, ex_seq, ex_block, reduceCtorEq, ↓reduceIte])
          | (refine tr_ret ?_; try simp only [ex_seq_ret, ex_block_ret]))
      refine tr_loop_k (σ := Nat) (fun k => [(1, .ptr 0 0), (3, sA (T1 ++ cum p.preds prPred k)), (5, iA k)]) (fun _ => ⟨[⟨false, [.c (slC stC p.e1 p.prin), .c (slC prC p.e2 p.preds), .c (slC clC p.e3 p.clears), iA p.quota, iA p.budget, .c (slC ruC p.e4 p.rules), .c (slC grC p.e5 p.grants)]⟩], []⟩) (fun k => k ≤ p.preds.length) (fun k => p.preds.length - k) 0 (Nat.zero_le _) ⟨rfl, by rw [cum_zero, app_e]; rfl, rfl, trivial⟩ rfl ?_
      rintro k hkk K hK
      by_cases hkl : k < p.preds.length
      · have d1 : decide ((k : Int) < (p.preds.length : Nat)) = true := decide_eq_true (by omega)
        have ix := idxP (ex := p.e2) hkl
        have ws := wrap_succ (show k ≤ 1000000000 by have := hk.preds.1; omega)
        have hx := hk.preds.2 p.preds[k] (List.getElem_mem hkl)
        have hn := cum_next prPred hkl
        have hq := q2 k (by omega)
        have hr := r2 k (by omega)
        generalize p.preds[k] = x at *
        generalize hW : T1 ++ cum p.preds prPred k = W at *
        have hWs : W.size ≤ 90000000000000 := by rw [← hW, app_size]; omega
        have hi := itoaB_size x.ar hx.2.1 hx.2.2
        have a0 := sadd (a := W) (b := tPred) (n := 100000000000000) (by (try simp only [app_size]); omega) (by decide)
        have a1 := sadd (a := (W ++ tPred)) (b := x.name) (n := 100000000000000) (by (try simp only [app_size]); omega) (by decide)
        have a2 := sadd (a := ((W ++ tPred) ++ x.name)) (b := tSl) (n := 100000000000000) (by (try simp only [app_size]); omega) (by decide)
        have a3 := sadd (a := (((W ++ tPred) ++ x.name) ++ tSl)) (b := itoaB x.ar) (n := 100000000000000) (by (try simp only [app_size]); omega) (by decide)
        have a4 := sadd (a := ((((W ++ tPred) ++ x.name) ++ tSl) ++ (itoaB x.ar))) (b := tDot) (n := 100000000000000) (by (try simp only [app_size]); omega) (by decide)
        have hW2 : (((((W ++ tPred) ++ x.name) ++ tSl) ++ (itoaB x.ar)) ++ tDot) = T1 ++ cum p.preds prPred (k + 1) := by
          rw [hn, ← ByteArray.append_assoc, hW]
          show _ = W ++ ((tPred ++ (x.name ++ (tSl ++ (itoaB x.ar ++ (⟨#[]⟩ : ByteArray))))) ++ tDot)
          rw [app_e]
          simp only [ByteArray.append_assoc]
        have cX := num_does x.ar hx.2.1 hx.2.2
        repeat (first
            | refine tr_seq_k fun _ _ => ?_
            | (refine tr_region ?_; simp only [go_sem, List.getElem?_toArray, str_beq, reduceCtorEq, Nat.reduceEqDiff, Nat.reduceLT, Nat.reduceLeDiff, Nat.reduceAdd, Nat.reduceMul, Nat.reduceSub, Nat.reduceBEq, ↓reduceIte, bne_self_eq_false, Bool.and_false, Bool.false_and, Bool.true_or, Bool.false_or, d1])
            | (refine tr_draw (id := 9) follows 10000 [16] [0, 1, 2, 3, 4, 5, 6, 7, 8, 9, 10, 11, 12, 13, 14, 15, 16, 17, 18, 19] (by kernel_rfl) ?_; simp only [go_sem, List.getElem?_toArray, str_beq, reduceCtorEq, Nat.reduceEqDiff, Nat.reduceLT, Nat.reduceLeDiff, Nat.reduceAdd, Nat.reduceMul, Nat.reduceSub, Nat.reduceBEq, ↓reduceIte, bne_self_eq_false, Bool.and_false, Bool.false_and, Bool.true_or, Bool.false_or, d1])
            | (refine tr_draw (id := 14) follows 10000 [4, 9] [0, 1, 2, 3, 7, 8, 4, 5, 6, 9, 10, 11, 12] (by kernel_rfl) ?_; simp only [go_sem, List.getElem?_toArray, str_beq, reduceCtorEq, Nat.reduceEqDiff, Nat.reduceLT, Nat.reduceLeDiff, Nat.reduceAdd, Nat.reduceMul, Nat.reduceSub, Nat.reduceBEq, ↓reduceIte, bne_self_eq_false, Bool.and_false, Bool.false_and, Bool.true_or, Bool.false_or, d1])
            | refine k_of (by assumption) ?_
            | refine tr_block ?_
            | refine tr_scope ?_
            | (refine tr_skip ?_; try simp only [ex_seq, ex_block])
            | (refine tr_label ?_; try simp only [ex_seq, ex_block])
            | (refine tr_exit ?_; try simp only [ex_seq_exit, ex_block_exit, Nat.reduceEqDiff, if_true, if_false, ex_seq, ex_block, reduceCtorEq, ↓reduceIte])
            | (refine tr_ret ?_; try simp only [ex_seq_ret, ex_block_ret]))
        refine tr_cond rfl (fun ht => ?_) (fun hf => ?_)
        · repeat (first
              | refine tr_seq_k fun _ _ => ?_
              | (refine tr_region ?_; simp only [go_sem, List.getElem?_toArray, str_beq, reduceCtorEq, Nat.reduceEqDiff, Nat.reduceLT, Nat.reduceLeDiff, Nat.reduceAdd, Nat.reduceMul, Nat.reduceSub, Nat.reduceBEq, ↓reduceIte, bne_self_eq_false, Bool.and_false, Bool.false_and, Bool.true_or, Bool.false_or, ix, ws, a0, a1, a2, a3, a4])
              | (refine tr_draw (id := 9) follows 10000 [16] [0, 1, 2, 3, 4, 5, 6, 7, 8, 9, 10, 11, 12, 13, 14, 15, 16, 17, 18, 19] (by kernel_rfl) ?_; simp only [go_sem, List.getElem?_toArray, str_beq, reduceCtorEq, Nat.reduceEqDiff, Nat.reduceLT, Nat.reduceLeDiff, Nat.reduceAdd, Nat.reduceMul, Nat.reduceSub, Nat.reduceBEq, ↓reduceIte, bne_self_eq_false, Bool.and_false, Bool.false_and, Bool.true_or, Bool.false_or, ix, ws, a0, a1, a2, a3, a4])
              | (refine tr_draw (id := 14) follows 10000 [4, 9] [0, 1, 2, 3, 7, 8, 4, 5, 6, 9, 10, 11, 12] (by kernel_rfl) ?_; simp only [go_sem, List.getElem?_toArray, str_beq, reduceCtorEq, Nat.reduceEqDiff, Nat.reduceLT, Nat.reduceLeDiff, Nat.reduceAdd, Nat.reduceMul, Nat.reduceSub, Nat.reduceBEq, ↓reduceIte, bne_self_eq_false, Bool.and_false, Bool.false_and, Bool.true_or, Bool.false_or, ix, ws, a0, a1, a2, a3, a4])
              | (refine call_of (cX) ?_ ?_
                 · first | rfl | simp only [go_sem, List.getElem?_toArray, str_beq, reduceCtorEq, Nat.reduceEqDiff, Nat.reduceLT, Nat.reduceLeDiff, Nat.reduceAdd, Nat.reduceMul, Nat.reduceSub, Nat.reduceBEq, ↓reduceIte, bne_self_eq_false, Bool.and_false, Bool.false_and, Bool.true_or, Bool.false_or, ix, ws, a0, a1, a2, a3, a4, shut_col]
                 simp only [go_sem, List.getElem?_toArray, str_beq, reduceCtorEq, Nat.reduceEqDiff, Nat.reduceLT, Nat.reduceLeDiff, Nat.reduceAdd, Nat.reduceMul, Nat.reduceSub, Nat.reduceBEq, ↓reduceIte, bne_self_eq_false, Bool.and_false, Bool.false_and, Bool.true_or, Bool.false_or, ix, ws, a0, a1, a2, a3, a4])
              | refine k_of (by assumption) ?_
              | refine tr_block ?_
              | refine tr_scope ?_
              | (refine tr_skip ?_; try simp only [ex_seq, ex_block])
              | (refine tr_label ?_; try simp only [ex_seq, ex_block])
              | (refine tr_exit ?_; try simp only [ex_seq_exit, ex_block_exit, Nat.reduceEqDiff, if_true, if_false, ex_seq, ex_block, reduceCtorEq, ↓reduceIte])
              | (refine tr_ret ?_; try simp only [ex_seq_ret, ex_block_ret]))
          exact hK (k + 1) _ _ hkl ⟨⟨rfl, by rw [← hW2]; rfl, rfl, trivial⟩, Keep.refl _, rfl, rfl, Nat.le_refl _, Nat.le_refl _⟩ (by omega)
        · cases hf
      · have d1 : decide ((k : Int) < (p.preds.length : Nat)) = false := decide_eq_false (by omega)
        obtain rfl : k = p.preds.length := by omega
        rw [← v2]
        repeat (first
            | refine tr_seq_k fun _ _ => ?_
            | (refine tr_region ?_; simp only [go_sem, List.getElem?_toArray, str_beq, reduceCtorEq, Nat.reduceEqDiff, Nat.reduceLT, Nat.reduceLeDiff, Nat.reduceAdd, Nat.reduceMul, Nat.reduceSub, Nat.reduceBEq, ↓reduceIte, bne_self_eq_false, Bool.and_false, Bool.false_and, Bool.true_or, Bool.false_or, d1])
            | (refine tr_draw (id := 9) follows 10000 [16] [0, 1, 2, 3, 4, 5, 6, 7, 8, 9, 10, 11, 12, 13, 14, 15, 16, 17, 18, 19] (by kernel_rfl) ?_; simp only [go_sem, List.getElem?_toArray, str_beq, reduceCtorEq, Nat.reduceEqDiff, Nat.reduceLT, Nat.reduceLeDiff, Nat.reduceAdd, Nat.reduceMul, Nat.reduceSub, Nat.reduceBEq, ↓reduceIte, bne_self_eq_false, Bool.and_false, Bool.false_and, Bool.true_or, Bool.false_or, d1])
            | (refine tr_draw (id := 14) follows 10000 [4, 9] [0, 1, 2, 3, 7, 8, 4, 5, 6, 9, 10, 11, 12] (by kernel_rfl) ?_; simp only [go_sem, List.getElem?_toArray, str_beq, reduceCtorEq, Nat.reduceEqDiff, Nat.reduceLT, Nat.reduceLeDiff, Nat.reduceAdd, Nat.reduceMul, Nat.reduceSub, Nat.reduceBEq, ↓reduceIte, bne_self_eq_false, Bool.and_false, Bool.false_and, Bool.true_or, Bool.false_or, d1])
            | refine k_of (by assumption) ?_
            | refine tr_block ?_
            | refine tr_scope ?_
            | (refine tr_skip ?_; try simp only [ex_seq, ex_block])
            | (refine tr_label ?_; try simp only [ex_seq, ex_block])
            | (refine tr_exit ?_; try simp only [ex_seq_exit, ex_block_exit, Nat.reduceEqDiff, if_true, if_false, ex_seq, ex_block, reduceCtorEq, ↓reduceIte])
            | (refine tr_ret ?_; try simp only [ex_seq_ret, ex_block_ret]))
        refine tr_cond rfl (fun ht => ?_) (fun hf => ?_)
        · cases ht
        · repeat (first
              | refine tr_seq_k fun _ _ => ?_
              | (refine tr_region ?_; simp only [go_sem, List.getElem?_toArray, str_beq, reduceCtorEq, Nat.reduceEqDiff, Nat.reduceLT, Nat.reduceLeDiff, Nat.reduceAdd, Nat.reduceMul, Nat.reduceSub, Nat.reduceBEq, ↓reduceIte, bne_self_eq_false, Bool.and_false, Bool.false_and, Bool.true_or, Bool.false_or])
              | (refine tr_draw (id := 9) follows 10000 [16] [0, 1, 2, 3, 4, 5, 6, 7, 8, 9, 10, 11, 12, 13, 14, 15, 16, 17, 18, 19] (by kernel_rfl) ?_; simp only [go_sem, List.getElem?_toArray, str_beq, reduceCtorEq, Nat.reduceEqDiff, Nat.reduceLT, Nat.reduceLeDiff, Nat.reduceAdd, Nat.reduceMul, Nat.reduceSub, Nat.reduceBEq, ↓reduceIte, bne_self_eq_false, Bool.and_false, Bool.false_and, Bool.true_or, Bool.false_or])
              | (refine tr_draw (id := 14) follows 10000 [4, 9] [0, 1, 2, 3, 7, 8, 4, 5, 6, 9, 10, 11, 12] (by kernel_rfl) ?_; simp only [go_sem, List.getElem?_toArray, str_beq, reduceCtorEq, Nat.reduceEqDiff, Nat.reduceLT, Nat.reduceLeDiff, Nat.reduceAdd, Nat.reduceMul, Nat.reduceSub, Nat.reduceBEq, ↓reduceIte, bne_self_eq_false, Bool.and_false, Bool.false_and, Bool.true_or, Bool.false_or])
              | refine k_of (by assumption) ?_
              | refine tr_block ?_
              | refine tr_scope ?_
              | (refine tr_skip ?_; try simp only [ex_seq, ex_block])
              | (refine tr_label ?_; try simp only [ex_seq, ex_block])
              | (refine tr_exit ?_; try simp only [ex_seq_exit, ex_block_exit, Nat.reduceEqDiff, if_true, if_false, ex_seq, ex_block, reduceCtorEq, ↓reduceIte])
              | (refine tr_ret ?_; try simp only [ex_seq_ret, ex_block_ret]))
          refine tr_loop_k (σ := Nat) (fun k => [(1, .ptr 0 0), (3, sA (T2 ++ cum p.clears prClr k)), (6, iA k)]) (fun _ => ⟨[⟨false, [.c (slC stC p.e1 p.prin), .c (slC prC p.e2 p.preds), .c (slC clC p.e3 p.clears), iA p.quota, iA p.budget, .c (slC ruC p.e4 p.rules), .c (slC grC p.e5 p.grants)]⟩], []⟩) (fun k => k ≤ p.clears.length) (fun k => p.clears.length - k) 0 (Nat.zero_le _) ⟨rfl, by rw [cum_zero, app_e]; rfl, rfl, trivial⟩ rfl ?_
          rintro k hkk K hK
          by_cases hkl : k < p.clears.length
          · have d1 : decide ((k : Int) < (p.clears.length : Nat)) = true := decide_eq_true (by omega)
            have ix := idxC (ex := p.e3) hkl
            have ws := wrap_succ (show k ≤ 1000000000 by have := hk.clears.1; omega)
            have hx := hk.clears.2 p.clears[k] (List.getElem_mem hkl)
            have hx : _ ∧ _ ∧ _ ∧ _ := ⟨hx.1, hx.2.1, hx.2.2, hrd p.clears[k] (List.getElem_mem hkl)⟩
            have hn := cum_next prClr hkl
            have hq := q3 k (by omega)
            have hr := r3 k (by omega)
            generalize p.clears[k] = x at *
            generalize hW : T2 ++ cum p.clears prClr k = W at *
            have hWs : W.size ≤ 90000000000000 := by rw [← hW, app_size]; omega
            have hi := pClear_size x hx.1 hx.2.2.1
            have a0 := sadd (a := W) (b := pClear x) (n := 100000000000000) (by (try simp only [app_size]); omega) (by decide)
            have a1 := sadd (a := (W ++ (pClear x))) (b := tDot) (n := 100000000000000) (by (try simp only [app_size]); omega) (by decide)
            have hW2 : ((W ++ (pClear x)) ++ tDot) = T2 ++ cum p.clears prClr (k + 1) := by
              rw [hn, ← ByteArray.append_assoc, hW]
              show _ = W ++ ((pClear x ++ (⟨#[]⟩ : ByteArray)) ++ tDot)
              rw [app_e]
              simp only [ByteArray.append_assoc]
            have cX := rclear_does x hx.1 hx.2.1 hx.2.2.2
            repeat (first
                | refine tr_seq_k fun _ _ => ?_
                | (refine tr_region ?_; simp only [go_sem, List.getElem?_toArray, str_beq, reduceCtorEq, Nat.reduceEqDiff, Nat.reduceLT, Nat.reduceLeDiff, Nat.reduceAdd, Nat.reduceMul, Nat.reduceSub, Nat.reduceBEq, ↓reduceIte, bne_self_eq_false, Bool.and_false, Bool.false_and, Bool.true_or, Bool.false_or, d1])
                | (refine tr_draw (id := 9) follows 10000 [16] [0, 1, 2, 3, 4, 5, 6, 7, 8, 9, 10, 11, 12, 13, 14, 15, 16, 17, 18, 19] (by kernel_rfl) ?_; simp only [go_sem, List.getElem?_toArray, str_beq, reduceCtorEq, Nat.reduceEqDiff, Nat.reduceLT, Nat.reduceLeDiff, Nat.reduceAdd, Nat.reduceMul, Nat.reduceSub, Nat.reduceBEq, ↓reduceIte, bne_self_eq_false, Bool.and_false, Bool.false_and, Bool.true_or, Bool.false_or, d1])
                | (refine tr_draw (id := 14) follows 10000 [4, 9] [0, 1, 2, 3, 7, 8, 4, 5, 6, 9, 10, 11, 12] (by kernel_rfl) ?_; simp only [go_sem, List.getElem?_toArray, str_beq, reduceCtorEq, Nat.reduceEqDiff, Nat.reduceLT, Nat.reduceLeDiff, Nat.reduceAdd, Nat.reduceMul, Nat.reduceSub, Nat.reduceBEq, ↓reduceIte, bne_self_eq_false, Bool.and_false, Bool.false_and, Bool.true_or, Bool.false_or, d1])
                | refine k_of (by assumption) ?_
                | refine tr_block ?_
                | refine tr_scope ?_
                | (refine tr_skip ?_; try simp only [ex_seq, ex_block])
                | (refine tr_label ?_; try simp only [ex_seq, ex_block])
                | (refine tr_exit ?_; try simp only [ex_seq_exit, ex_block_exit, Nat.reduceEqDiff, if_true, if_false, ex_seq, ex_block, reduceCtorEq, ↓reduceIte])
                | (refine tr_ret ?_; try simp only [ex_seq_ret, ex_block_ret]))
            refine tr_cond rfl (fun ht => ?_) (fun hf => ?_)
            · repeat (first
                  | refine tr_seq_k fun _ _ => ?_
                  | (refine tr_region ?_; simp only [go_sem, List.getElem?_toArray, str_beq, reduceCtorEq, Nat.reduceEqDiff, Nat.reduceLT, Nat.reduceLeDiff, Nat.reduceAdd, Nat.reduceMul, Nat.reduceSub, Nat.reduceBEq, ↓reduceIte, bne_self_eq_false, Bool.and_false, Bool.false_and, Bool.true_or, Bool.false_or, ix, ws, a0, a1])
                  | (refine tr_draw (id := 9) follows 10000 [16] [0, 1, 2, 3, 4, 5, 6, 7, 8, 9, 10, 11, 12, 13, 14, 15, 16, 17, 18, 19] (by kernel_rfl) ?_; simp only [go_sem, List.getElem?_toArray, str_beq, reduceCtorEq, Nat.reduceEqDiff, Nat.reduceLT, Nat.reduceLeDiff, Nat.reduceAdd, Nat.reduceMul, Nat.reduceSub, Nat.reduceBEq, ↓reduceIte, bne_self_eq_false, Bool.and_false, Bool.false_and, Bool.true_or, Bool.false_or, ix, ws, a0, a1])
                  | (refine tr_draw (id := 14) follows 10000 [4, 9] [0, 1, 2, 3, 7, 8, 4, 5, 6, 9, 10, 11, 12] (by kernel_rfl) ?_; simp only [go_sem, List.getElem?_toArray, str_beq, reduceCtorEq, Nat.reduceEqDiff, Nat.reduceLT, Nat.reduceLeDiff, Nat.reduceAdd, Nat.reduceMul, Nat.reduceSub, Nat.reduceBEq, ↓reduceIte, bne_self_eq_false, Bool.and_false, Bool.false_and, Bool.true_or, Bool.false_or, ix, ws, a0, a1])
                  | (refine call_of (cX) ?_ ?_
                     · first | rfl | simp only [go_sem, List.getElem?_toArray, str_beq, reduceCtorEq, Nat.reduceEqDiff, Nat.reduceLT, Nat.reduceLeDiff, Nat.reduceAdd, Nat.reduceMul, Nat.reduceSub, Nat.reduceBEq, ↓reduceIte, bne_self_eq_false, Bool.and_false, Bool.false_and, Bool.true_or, Bool.false_or, ix, ws, a0, a1, shut_col]
                     simp only [go_sem, List.getElem?_toArray, str_beq, reduceCtorEq, Nat.reduceEqDiff, Nat.reduceLT, Nat.reduceLeDiff, Nat.reduceAdd, Nat.reduceMul, Nat.reduceSub, Nat.reduceBEq, ↓reduceIte, bne_self_eq_false, Bool.and_false, Bool.false_and, Bool.true_or, Bool.false_or, ix, ws, a0, a1])
                  | refine k_of (by assumption) ?_
                  | refine tr_block ?_
                  | refine tr_scope ?_
                  | (refine tr_skip ?_; try simp only [ex_seq, ex_block])
                  | (refine tr_label ?_; try simp only [ex_seq, ex_block])
                  | (refine tr_exit ?_; try simp only [ex_seq_exit, ex_block_exit, Nat.reduceEqDiff, if_true, if_false, ex_seq, ex_block, reduceCtorEq, ↓reduceIte])
                  | (refine tr_ret ?_; try simp only [ex_seq_ret, ex_block_ret]))
              exact hK (k + 1) _ _ hkl ⟨⟨rfl, by rw [← hW2]; rfl, rfl, trivial⟩, Keep.refl _, rfl, rfl, Nat.le_refl _, Nat.le_refl _⟩ (by omega)
            · cases hf
          · have d1 : decide ((k : Int) < (p.clears.length : Nat)) = false := decide_eq_false (by omega)
            obtain rfl : k = p.clears.length := by omega
            rw [← v3]
            repeat (first
                | refine tr_seq_k fun _ _ => ?_
                | (refine tr_region ?_; simp only [go_sem, List.getElem?_toArray, str_beq, reduceCtorEq, Nat.reduceEqDiff, Nat.reduceLT, Nat.reduceLeDiff, Nat.reduceAdd, Nat.reduceMul, Nat.reduceSub, Nat.reduceBEq, ↓reduceIte, bne_self_eq_false, Bool.and_false, Bool.false_and, Bool.true_or, Bool.false_or, d1])
                | (refine tr_draw (id := 9) follows 10000 [16] [0, 1, 2, 3, 4, 5, 6, 7, 8, 9, 10, 11, 12, 13, 14, 15, 16, 17, 18, 19] (by kernel_rfl) ?_; simp only [go_sem, List.getElem?_toArray, str_beq, reduceCtorEq, Nat.reduceEqDiff, Nat.reduceLT, Nat.reduceLeDiff, Nat.reduceAdd, Nat.reduceMul, Nat.reduceSub, Nat.reduceBEq, ↓reduceIte, bne_self_eq_false, Bool.and_false, Bool.false_and, Bool.true_or, Bool.false_or, d1])
                | (refine tr_draw (id := 14) follows 10000 [4, 9] [0, 1, 2, 3, 7, 8, 4, 5, 6, 9, 10, 11, 12] (by kernel_rfl) ?_; simp only [go_sem, List.getElem?_toArray, str_beq, reduceCtorEq, Nat.reduceEqDiff, Nat.reduceLT, Nat.reduceLeDiff, Nat.reduceAdd, Nat.reduceMul, Nat.reduceSub, Nat.reduceBEq, ↓reduceIte, bne_self_eq_false, Bool.and_false, Bool.false_and, Bool.true_or, Bool.false_or, d1])
                | refine k_of (by assumption) ?_
                | refine tr_block ?_
                | refine tr_scope ?_
                | (refine tr_skip ?_; try simp only [ex_seq, ex_block])
                | (refine tr_label ?_; try simp only [ex_seq, ex_block])
                | (refine tr_exit ?_; try simp only [ex_seq_exit, ex_block_exit, Nat.reduceEqDiff, if_true, if_false, ex_seq, ex_block, reduceCtorEq, ↓reduceIte])
                | (refine tr_ret ?_; try simp only [ex_seq_ret, ex_block_ret]))
            refine tr_cond rfl (fun ht => ?_) (fun hf => ?_)
            · cases ht
            · repeat (first
                  | refine tr_seq_k fun _ _ => ?_
                  | (refine tr_region ?_; simp only [go_sem, List.getElem?_toArray, str_beq, reduceCtorEq, Nat.reduceEqDiff, Nat.reduceLT, Nat.reduceLeDiff, Nat.reduceAdd, Nat.reduceMul, Nat.reduceSub, Nat.reduceBEq, ↓reduceIte, bne_self_eq_false, Bool.and_false, Bool.false_and, Bool.true_or, Bool.false_or, u1, u2, u3, u4, u5])
                  | (refine tr_draw (id := 9) follows 10000 [16] [0, 1, 2, 3, 4, 5, 6, 7, 8, 9, 10, 11, 12, 13, 14, 15, 16, 17, 18, 19] (by kernel_rfl) ?_; simp only [go_sem, List.getElem?_toArray, str_beq, reduceCtorEq, Nat.reduceEqDiff, Nat.reduceLT, Nat.reduceLeDiff, Nat.reduceAdd, Nat.reduceMul, Nat.reduceSub, Nat.reduceBEq, ↓reduceIte, bne_self_eq_false, Bool.and_false, Bool.false_and, Bool.true_or, Bool.false_or, u1, u2, u3, u4, u5])
                  | (refine tr_draw (id := 14) follows 10000 [4, 9] [0, 1, 2, 3, 7, 8, 4, 5, 6, 9, 10, 11, 12] (by kernel_rfl) ?_; simp only [go_sem, List.getElem?_toArray, str_beq, reduceCtorEq, Nat.reduceEqDiff, Nat.reduceLT, Nat.reduceLeDiff, Nat.reduceAdd, Nat.reduceMul, Nat.reduceSub, Nat.reduceBEq, ↓reduceIte, bne_self_eq_false, Bool.and_false, Bool.false_and, Bool.true_or, Bool.false_or, u1, u2, u3, u4, u5])
                  | (refine call_of (cQ) ?_ ?_
                     · first | rfl | simp only [go_sem, List.getElem?_toArray, str_beq, reduceCtorEq, Nat.reduceEqDiff, Nat.reduceLT, Nat.reduceLeDiff, Nat.reduceAdd, Nat.reduceMul, Nat.reduceSub, Nat.reduceBEq, ↓reduceIte, bne_self_eq_false, Bool.and_false, Bool.false_and, Bool.true_or, Bool.false_or, u1, u2, u3, u4, u5, shut_col]
                     simp only [go_sem, List.getElem?_toArray, str_beq, reduceCtorEq, Nat.reduceEqDiff, Nat.reduceLT, Nat.reduceLeDiff, Nat.reduceAdd, Nat.reduceMul, Nat.reduceSub, Nat.reduceBEq, ↓reduceIte, bne_self_eq_false, Bool.and_false, Bool.false_and, Bool.true_or, Bool.false_or, u1, u2, u3, u4, u5])
                  | (refine call_of (cB) ?_ ?_
                     · first | rfl | simp only [go_sem, List.getElem?_toArray, str_beq, reduceCtorEq, Nat.reduceEqDiff, Nat.reduceLT, Nat.reduceLeDiff, Nat.reduceAdd, Nat.reduceMul, Nat.reduceSub, Nat.reduceBEq, ↓reduceIte, bne_self_eq_false, Bool.and_false, Bool.false_and, Bool.true_or, Bool.false_or, u1, u2, u3, u4, u5, shut_col]
                     simp only [go_sem, List.getElem?_toArray, str_beq, reduceCtorEq, Nat.reduceEqDiff, Nat.reduceLT, Nat.reduceLeDiff, Nat.reduceAdd, Nat.reduceMul, Nat.reduceSub, Nat.reduceBEq, ↓reduceIte, bne_self_eq_false, Bool.and_false, Bool.false_and, Bool.true_or, Bool.false_or, u1, u2, u3, u4, u5])
                  | refine k_of (by assumption) ?_
                  | refine tr_block ?_
                  | refine tr_scope ?_
                  | (refine tr_skip ?_; try simp only [ex_seq, ex_block])
                  | (refine tr_label ?_; try simp only [ex_seq, ex_block])
                  | (refine tr_exit ?_; try simp only [ex_seq_exit, ex_block_exit, Nat.reduceEqDiff, if_true, if_false, ex_seq, ex_block, reduceCtorEq, ↓reduceIte])
                  | (refine tr_ret ?_; try simp only [ex_seq_ret, ex_block_ret]))
              refine tr_loop_k (σ := Nat) (fun k => [(1, .ptr 0 0), (3, sA (T4 ++ cum p.rules prRul k)), (7, iA k)]) (fun _ => ⟨[⟨false, [.c (slC stC p.e1 p.prin), .c (slC prC p.e2 p.preds), .c (slC clC p.e3 p.clears), iA p.quota, iA p.budget, .c (slC ruC p.e4 p.rules), .c (slC grC p.e5 p.grants)]⟩], []⟩) (fun k => k ≤ p.rules.length) (fun k => p.rules.length - k) 0 (Nat.zero_le _) ⟨rfl, by rw [cum_zero, app_e]; rfl, rfl, trivial⟩ rfl ?_
              rintro k hkk K hK
              by_cases hkl : k < p.rules.length
              · have d1 : decide ((k : Int) < (p.rules.length : Nat)) = true := decide_eq_true (by omega)
                have ix := idxRu (ex := p.e4) hkl
                have ws := wrap_succ (show k ≤ 1000000000 by have := hk.rules.1; omega)
                have hx := hk.rules.2 p.rules[k] (List.getElem_mem hkl)
                have hn := cum_next prRul hkl
                have hq := q4 k (by omega)
                have hr := r4 k (by omega)
                generalize p.rules[k] = x at *
                generalize hW : T4 ++ cum p.rules prRul k = W at *
                have hWs : W.size ≤ 90000000000000 := by rw [← hW, app_size]; omega
                have hi : (pRule x).size ≤ 1100000000 := by rw [pRule, app_size]; have := pbody_size hx.2.1 hx.2.2; have := ptext_size hx.1; omega
                have a0 := sadd (a := W) (b := pRule x) (n := 100000000000000) (by (try simp only [app_size]); omega) (by decide)
                have a1 := sadd (a := (W ++ (pRule x))) (b := tDot) (n := 100000000000000) (by (try simp only [app_size]); omega) (by decide)
                have hW2 : ((W ++ (pRule x)) ++ tDot) = T4 ++ cum p.rules prRul (k + 1) := by
                  rw [hn, ← ByteArray.append_assoc, hW]
                  show _ = W ++ ((pRule x ++ (⟨#[]⟩ : ByteArray)) ++ tDot)
                  rw [app_e]
                  simp only [ByteArray.append_assoc]
                have cX := rrule_does x hx.1 hx.2.1 hx.2.2
                repeat (first
                    | refine tr_seq_k fun _ _ => ?_
                    | (refine tr_region ?_; simp only [go_sem, List.getElem?_toArray, str_beq, reduceCtorEq, Nat.reduceEqDiff, Nat.reduceLT, Nat.reduceLeDiff, Nat.reduceAdd, Nat.reduceMul, Nat.reduceSub, Nat.reduceBEq, ↓reduceIte, bne_self_eq_false, Bool.and_false, Bool.false_and, Bool.true_or, Bool.false_or, d1])
                    | (refine tr_draw (id := 9) follows 10000 [16] [0, 1, 2, 3, 4, 5, 6, 7, 8, 9, 10, 11, 12, 13, 14, 15, 16, 17, 18, 19] (by kernel_rfl) ?_; simp only [go_sem, List.getElem?_toArray, str_beq, reduceCtorEq, Nat.reduceEqDiff, Nat.reduceLT, Nat.reduceLeDiff, Nat.reduceAdd, Nat.reduceMul, Nat.reduceSub, Nat.reduceBEq, ↓reduceIte, bne_self_eq_false, Bool.and_false, Bool.false_and, Bool.true_or, Bool.false_or, d1])
                    | (refine tr_draw (id := 14) follows 10000 [4, 9] [0, 1, 2, 3, 7, 8, 4, 5, 6, 9, 10, 11, 12] (by kernel_rfl) ?_; simp only [go_sem, List.getElem?_toArray, str_beq, reduceCtorEq, Nat.reduceEqDiff, Nat.reduceLT, Nat.reduceLeDiff, Nat.reduceAdd, Nat.reduceMul, Nat.reduceSub, Nat.reduceBEq, ↓reduceIte, bne_self_eq_false, Bool.and_false, Bool.false_and, Bool.true_or, Bool.false_or, d1])
                    | refine k_of (by assumption) ?_
                    | refine tr_block ?_
                    | refine tr_scope ?_
                    | (refine tr_skip ?_; try simp only [ex_seq, ex_block])
                    | (refine tr_label ?_; try simp only [ex_seq, ex_block])
                    | (refine tr_exit ?_; try simp only [ex_seq_exit, ex_block_exit, Nat.reduceEqDiff, if_true, if_false, ex_seq, ex_block, reduceCtorEq, ↓reduceIte])
                    | (refine tr_ret ?_; try simp only [ex_seq_ret, ex_block_ret]))
                refine tr_cond rfl (fun ht => ?_) (fun hf => ?_)
                · repeat (first
                      | refine tr_seq_k fun _ _ => ?_
                      | (refine tr_region ?_; simp only [go_sem, List.getElem?_toArray, str_beq, reduceCtorEq, Nat.reduceEqDiff, Nat.reduceLT, Nat.reduceLeDiff, Nat.reduceAdd, Nat.reduceMul, Nat.reduceSub, Nat.reduceBEq, ↓reduceIte, bne_self_eq_false, Bool.and_false, Bool.false_and, Bool.true_or, Bool.false_or, ix, ws, a0, a1])
                      | (refine tr_draw (id := 9) follows 10000 [16] [0, 1, 2, 3, 4, 5, 6, 7, 8, 9, 10, 11, 12, 13, 14, 15, 16, 17, 18, 19] (by kernel_rfl) ?_; simp only [go_sem, List.getElem?_toArray, str_beq, reduceCtorEq, Nat.reduceEqDiff, Nat.reduceLT, Nat.reduceLeDiff, Nat.reduceAdd, Nat.reduceMul, Nat.reduceSub, Nat.reduceBEq, ↓reduceIte, bne_self_eq_false, Bool.and_false, Bool.false_and, Bool.true_or, Bool.false_or, ix, ws, a0, a1])
                      | (refine tr_draw (id := 14) follows 10000 [4, 9] [0, 1, 2, 3, 7, 8, 4, 5, 6, 9, 10, 11, 12] (by kernel_rfl) ?_; simp only [go_sem, List.getElem?_toArray, str_beq, reduceCtorEq, Nat.reduceEqDiff, Nat.reduceLT, Nat.reduceLeDiff, Nat.reduceAdd, Nat.reduceMul, Nat.reduceSub, Nat.reduceBEq, ↓reduceIte, bne_self_eq_false, Bool.and_false, Bool.false_and, Bool.true_or, Bool.false_or, ix, ws, a0, a1])
                      | (refine call_of (cX) ?_ ?_
                         · first | rfl | simp only [go_sem, List.getElem?_toArray, str_beq, reduceCtorEq, Nat.reduceEqDiff, Nat.reduceLT, Nat.reduceLeDiff, Nat.reduceAdd, Nat.reduceMul, Nat.reduceSub, Nat.reduceBEq, ↓reduceIte, bne_self_eq_false, Bool.and_false, Bool.false_and, Bool.true_or, Bool.false_or, ix, ws, a0, a1, shut_col]
                         simp only [go_sem, List.getElem?_toArray, str_beq, reduceCtorEq, Nat.reduceEqDiff, Nat.reduceLT, Nat.reduceLeDiff, Nat.reduceAdd, Nat.reduceMul, Nat.reduceSub, Nat.reduceBEq, ↓reduceIte, bne_self_eq_false, Bool.and_false, Bool.false_and, Bool.true_or, Bool.false_or, ix, ws, a0, a1])
                      | refine k_of (by assumption) ?_
                      | refine tr_block ?_
                      | refine tr_scope ?_
                      | (refine tr_skip ?_; try simp only [ex_seq, ex_block])
                      | (refine tr_label ?_; try simp only [ex_seq, ex_block])
                      | (refine tr_exit ?_; try simp only [ex_seq_exit, ex_block_exit, Nat.reduceEqDiff, if_true, if_false, ex_seq, ex_block, reduceCtorEq, ↓reduceIte])
                      | (refine tr_ret ?_; try simp only [ex_seq_ret, ex_block_ret]))
                  exact hK (k + 1) _ _ hkl ⟨⟨rfl, by rw [← hW2]; rfl, rfl, trivial⟩, Keep.refl _, rfl, rfl, Nat.le_refl _, Nat.le_refl _⟩ (by omega)
                · cases hf
              · have d1 : decide ((k : Int) < (p.rules.length : Nat)) = false := decide_eq_false (by omega)
                obtain rfl : k = p.rules.length := by omega
                rw [← v5]
                repeat (first
                    | refine tr_seq_k fun _ _ => ?_
                    | (refine tr_region ?_; simp only [go_sem, List.getElem?_toArray, str_beq, reduceCtorEq, Nat.reduceEqDiff, Nat.reduceLT, Nat.reduceLeDiff, Nat.reduceAdd, Nat.reduceMul, Nat.reduceSub, Nat.reduceBEq, ↓reduceIte, bne_self_eq_false, Bool.and_false, Bool.false_and, Bool.true_or, Bool.false_or, d1])
                    | (refine tr_draw (id := 9) follows 10000 [16] [0, 1, 2, 3, 4, 5, 6, 7, 8, 9, 10, 11, 12, 13, 14, 15, 16, 17, 18, 19] (by kernel_rfl) ?_; simp only [go_sem, List.getElem?_toArray, str_beq, reduceCtorEq, Nat.reduceEqDiff, Nat.reduceLT, Nat.reduceLeDiff, Nat.reduceAdd, Nat.reduceMul, Nat.reduceSub, Nat.reduceBEq, ↓reduceIte, bne_self_eq_false, Bool.and_false, Bool.false_and, Bool.true_or, Bool.false_or, d1])
                    | (refine tr_draw (id := 14) follows 10000 [4, 9] [0, 1, 2, 3, 7, 8, 4, 5, 6, 9, 10, 11, 12] (by kernel_rfl) ?_; simp only [go_sem, List.getElem?_toArray, str_beq, reduceCtorEq, Nat.reduceEqDiff, Nat.reduceLT, Nat.reduceLeDiff, Nat.reduceAdd, Nat.reduceMul, Nat.reduceSub, Nat.reduceBEq, ↓reduceIte, bne_self_eq_false, Bool.and_false, Bool.false_and, Bool.true_or, Bool.false_or, d1])
                    | refine k_of (by assumption) ?_
                    | refine tr_block ?_
                    | refine tr_scope ?_
                    | (refine tr_skip ?_; try simp only [ex_seq, ex_block])
                    | (refine tr_label ?_; try simp only [ex_seq, ex_block])
                    | (refine tr_exit ?_; try simp only [ex_seq_exit, ex_block_exit, Nat.reduceEqDiff, if_true, if_false, ex_seq, ex_block, reduceCtorEq, ↓reduceIte])
                    | (refine tr_ret ?_; try simp only [ex_seq_ret, ex_block_ret]))
                refine tr_cond rfl (fun ht => ?_) (fun hf => ?_)
                · cases ht
                · repeat (first
                      | refine tr_seq_k fun _ _ => ?_
                      | (refine tr_region ?_; simp only [go_sem, List.getElem?_toArray, str_beq, reduceCtorEq, Nat.reduceEqDiff, Nat.reduceLT, Nat.reduceLeDiff, Nat.reduceAdd, Nat.reduceMul, Nat.reduceSub, Nat.reduceBEq, ↓reduceIte, bne_self_eq_false, Bool.and_false, Bool.false_and, Bool.true_or, Bool.false_or])
                      | (refine tr_draw (id := 9) follows 10000 [16] [0, 1, 2, 3, 4, 5, 6, 7, 8, 9, 10, 11, 12, 13, 14, 15, 16, 17, 18, 19] (by kernel_rfl) ?_; simp only [go_sem, List.getElem?_toArray, str_beq, reduceCtorEq, Nat.reduceEqDiff, Nat.reduceLT, Nat.reduceLeDiff, Nat.reduceAdd, Nat.reduceMul, Nat.reduceSub, Nat.reduceBEq, ↓reduceIte, bne_self_eq_false, Bool.and_false, Bool.false_and, Bool.true_or, Bool.false_or])
                      | (refine tr_draw (id := 14) follows 10000 [4, 9] [0, 1, 2, 3, 7, 8, 4, 5, 6, 9, 10, 11, 12] (by kernel_rfl) ?_; simp only [go_sem, List.getElem?_toArray, str_beq, reduceCtorEq, Nat.reduceEqDiff, Nat.reduceLT, Nat.reduceLeDiff, Nat.reduceAdd, Nat.reduceMul, Nat.reduceSub, Nat.reduceBEq, ↓reduceIte, bne_self_eq_false, Bool.and_false, Bool.false_and, Bool.true_or, Bool.false_or])
                      | refine k_of (by assumption) ?_
                      | refine tr_block ?_
                      | refine tr_scope ?_
                      | (refine tr_skip ?_; try simp only [ex_seq, ex_block])
                      | (refine tr_label ?_; try simp only [ex_seq, ex_block])
                      | (refine tr_exit ?_; try simp only [ex_seq_exit, ex_block_exit, Nat.reduceEqDiff, if_true, if_false, ex_seq, ex_block, reduceCtorEq, ↓reduceIte])
                      | (refine tr_ret ?_; try simp only [ex_seq_ret, ex_block_ret]))
                  refine tr_loop_k (σ := Nat) (fun k => [(1, .ptr 0 0), (3, sA (T5 ++ cum p.grants prGrt k)), (8, iA k)]) (fun _ => ⟨[⟨false, [.c (slC stC p.e1 p.prin), .c (slC prC p.e2 p.preds), .c (slC clC p.e3 p.clears), iA p.quota, iA p.budget, .c (slC ruC p.e4 p.rules), .c (slC grC p.e5 p.grants)]⟩], []⟩) (fun k => k ≤ p.grants.length) (fun k => p.grants.length - k) 0 (Nat.zero_le _) ⟨rfl, by rw [cum_zero, app_e]; rfl, rfl, trivial⟩ rfl ?_
                  rintro k hkk K hK
                  by_cases hkl : k < p.grants.length
                  · have d1 : decide ((k : Int) < (p.grants.length : Nat)) = true := decide_eq_true (by omega)
                    have ix := idxGr (ex := p.e5) hkl
                    have ws := wrap_succ (show k ≤ 1000000000 by have := hk.grants.1; omega)
                    have hx := hk.grants.2 p.grants[k] (List.getElem_mem hkl)
                    have hn := cum_next prGrt hkl
                    have hq := q5 k (by omega)
                    have hr := r5 k (by omega)
                    generalize p.grants[k] = x at *
                    generalize hW : T5 ++ cum p.grants prGrt k = W at *
                    have hWs : W.size ≤ 90000000000000 := by rw [← hW, app_size]; omega
                    have hi := pGrant_size x hx.1 hx.2.1 hx.2.2.1 hx.2.2.2
                    have a0 := sadd (a := W) (b := pGrant x) (n := 100000000000000) (by (try simp only [app_size]); omega) (by decide)
                    have a1 := sadd (a := (W ++ (pGrant x))) (b := tDot) (n := 100000000000000) (by (try simp only [app_size]); omega) (by decide)
                    have hW2 : ((W ++ (pGrant x)) ++ tDot) = T5 ++ cum p.grants prGrt (k + 1) := by
                      rw [hn, ← ByteArray.append_assoc, hW]
                      show _ = W ++ ((pGrant x ++ (⟨#[]⟩ : ByteArray)) ++ tDot)
                      rw [app_e]
                      simp only [ByteArray.append_assoc]
                    have cX := rgrant_does x hx.1 hx.2.1 hx.2.2.1 hx.2.2.2
                    repeat (first
                        | refine tr_seq_k fun _ _ => ?_
                        | (refine tr_region ?_; simp only [go_sem, List.getElem?_toArray, str_beq, reduceCtorEq, Nat.reduceEqDiff, Nat.reduceLT, Nat.reduceLeDiff, Nat.reduceAdd, Nat.reduceMul, Nat.reduceSub, Nat.reduceBEq, ↓reduceIte, bne_self_eq_false, Bool.and_false, Bool.false_and, Bool.true_or, Bool.false_or, d1])
                        | (refine tr_draw (id := 9) follows 10000 [16] [0, 1, 2, 3, 4, 5, 6, 7, 8, 9, 10, 11, 12, 13, 14, 15, 16, 17, 18, 19] (by kernel_rfl) ?_; simp only [go_sem, List.getElem?_toArray, str_beq, reduceCtorEq, Nat.reduceEqDiff, Nat.reduceLT, Nat.reduceLeDiff, Nat.reduceAdd, Nat.reduceMul, Nat.reduceSub, Nat.reduceBEq, ↓reduceIte, bne_self_eq_false, Bool.and_false, Bool.false_and, Bool.true_or, Bool.false_or, d1])
                        | (refine tr_draw (id := 14) follows 10000 [4, 9] [0, 1, 2, 3, 7, 8, 4, 5, 6, 9, 10, 11, 12] (by kernel_rfl) ?_; simp only [go_sem, List.getElem?_toArray, str_beq, reduceCtorEq, Nat.reduceEqDiff, Nat.reduceLT, Nat.reduceLeDiff, Nat.reduceAdd, Nat.reduceMul, Nat.reduceSub, Nat.reduceBEq, ↓reduceIte, bne_self_eq_false, Bool.and_false, Bool.false_and, Bool.true_or, Bool.false_or, d1])
                        | refine k_of (by assumption) ?_
                        | refine tr_block ?_
                        | refine tr_scope ?_
                        | (refine tr_skip ?_; try simp only [ex_seq, ex_block])
                        | (refine tr_label ?_; try simp only [ex_seq, ex_block])
                        | (refine tr_exit ?_; try simp only [ex_seq_exit, ex_block_exit, Nat.reduceEqDiff, if_true, if_false, ex_seq, ex_block, reduceCtorEq, ↓reduceIte])
                        | (refine tr_ret ?_; try simp only [ex_seq_ret, ex_block_ret]))
                    refine tr_cond rfl (fun ht => ?_) (fun hf => ?_)
                    · repeat (first
                          | refine tr_seq_k fun _ _ => ?_
                          | (refine tr_region ?_; simp only [go_sem, List.getElem?_toArray, str_beq, reduceCtorEq, Nat.reduceEqDiff, Nat.reduceLT, Nat.reduceLeDiff, Nat.reduceAdd, Nat.reduceMul, Nat.reduceSub, Nat.reduceBEq, ↓reduceIte, bne_self_eq_false, Bool.and_false, Bool.false_and, Bool.true_or, Bool.false_or, ix, ws, a0, a1])
                          | (refine tr_draw (id := 9) follows 10000 [16] [0, 1, 2, 3, 4, 5, 6, 7, 8, 9, 10, 11, 12, 13, 14, 15, 16, 17, 18, 19] (by kernel_rfl) ?_; simp only [go_sem, List.getElem?_toArray, str_beq, reduceCtorEq, Nat.reduceEqDiff, Nat.reduceLT, Nat.reduceLeDiff, Nat.reduceAdd, Nat.reduceMul, Nat.reduceSub, Nat.reduceBEq, ↓reduceIte, bne_self_eq_false, Bool.and_false, Bool.false_and, Bool.true_or, Bool.false_or, ix, ws, a0, a1])
                          | (refine tr_draw (id := 14) follows 10000 [4, 9] [0, 1, 2, 3, 7, 8, 4, 5, 6, 9, 10, 11, 12] (by kernel_rfl) ?_; simp only [go_sem, List.getElem?_toArray, str_beq, reduceCtorEq, Nat.reduceEqDiff, Nat.reduceLT, Nat.reduceLeDiff, Nat.reduceAdd, Nat.reduceMul, Nat.reduceSub, Nat.reduceBEq, ↓reduceIte, bne_self_eq_false, Bool.and_false, Bool.false_and, Bool.true_or, Bool.false_or, ix, ws, a0, a1])
                          | (refine call_of (cX) ?_ ?_
                             · first | rfl | simp only [go_sem, List.getElem?_toArray, str_beq, reduceCtorEq, Nat.reduceEqDiff, Nat.reduceLT, Nat.reduceLeDiff, Nat.reduceAdd, Nat.reduceMul, Nat.reduceSub, Nat.reduceBEq, ↓reduceIte, bne_self_eq_false, Bool.and_false, Bool.false_and, Bool.true_or, Bool.false_or, ix, ws, a0, a1, shut_col]
                             simp only [go_sem, List.getElem?_toArray, str_beq, reduceCtorEq, Nat.reduceEqDiff, Nat.reduceLT, Nat.reduceLeDiff, Nat.reduceAdd, Nat.reduceMul, Nat.reduceSub, Nat.reduceBEq, ↓reduceIte, bne_self_eq_false, Bool.and_false, Bool.false_and, Bool.true_or, Bool.false_or, ix, ws, a0, a1])
                          | refine k_of (by assumption) ?_
                          | refine tr_block ?_
                          | refine tr_scope ?_
                          | (refine tr_skip ?_; try simp only [ex_seq, ex_block])
                          | (refine tr_label ?_; try simp only [ex_seq, ex_block])
                          | (refine tr_exit ?_; try simp only [ex_seq_exit, ex_block_exit, Nat.reduceEqDiff, if_true, if_false, ex_seq, ex_block, reduceCtorEq, ↓reduceIte])
                          | (refine tr_ret ?_; try simp only [ex_seq_ret, ex_block_ret]))
                      exact hK (k + 1) _ _ hkl ⟨⟨rfl, by rw [← hW2]; rfl, rfl, trivial⟩, Keep.refl _, rfl, rfl, Nat.le_refl _, Nat.le_refl _⟩ (by omega)
                    · cases hf
                  · have d1 : decide ((k : Int) < (p.grants.length : Nat)) = false := decide_eq_false (by omega)
                    obtain rfl : k = p.grants.length := by omega
                    rw [← v6]
                    repeat (first
                        | refine tr_seq_k fun _ _ => ?_
                        | (refine tr_region ?_; simp only [go_sem, List.getElem?_toArray, str_beq, reduceCtorEq, Nat.reduceEqDiff, Nat.reduceLT, Nat.reduceLeDiff, Nat.reduceAdd, Nat.reduceMul, Nat.reduceSub, Nat.reduceBEq, ↓reduceIte, bne_self_eq_false, Bool.and_false, Bool.false_and, Bool.true_or, Bool.false_or, d1])
                        | (refine tr_draw (id := 9) follows 10000 [16] [0, 1, 2, 3, 4, 5, 6, 7, 8, 9, 10, 11, 12, 13, 14, 15, 16, 17, 18, 19] (by kernel_rfl) ?_; simp only [go_sem, List.getElem?_toArray, str_beq, reduceCtorEq, Nat.reduceEqDiff, Nat.reduceLT, Nat.reduceLeDiff, Nat.reduceAdd, Nat.reduceMul, Nat.reduceSub, Nat.reduceBEq, ↓reduceIte, bne_self_eq_false, Bool.and_false, Bool.false_and, Bool.true_or, Bool.false_or, d1])
                        | (refine tr_draw (id := 14) follows 10000 [4, 9] [0, 1, 2, 3, 7, 8, 4, 5, 6, 9, 10, 11, 12] (by kernel_rfl) ?_; simp only [go_sem, List.getElem?_toArray, str_beq, reduceCtorEq, Nat.reduceEqDiff, Nat.reduceLT, Nat.reduceLeDiff, Nat.reduceAdd, Nat.reduceMul, Nat.reduceSub, Nat.reduceBEq, ↓reduceIte, bne_self_eq_false, Bool.and_false, Bool.false_and, Bool.true_or, Bool.false_or, d1])
                        | refine k_of (by assumption) ?_
                        | refine tr_block ?_
                        | refine tr_scope ?_
                        | (refine tr_skip ?_; try simp only [ex_seq, ex_block])
                        | (refine tr_label ?_; try simp only [ex_seq, ex_block])
                        | (refine tr_exit ?_; try simp only [ex_seq_exit, ex_block_exit, Nat.reduceEqDiff, if_true, if_false, ex_seq, ex_block, reduceCtorEq, ↓reduceIte])
                        | (refine tr_ret ?_; try simp only [ex_seq_ret, ex_block_ret]))
                    refine tr_cond rfl (fun ht => ?_) (fun hf => ?_)
                    · cases ht
                    · repeat (first
                          | refine tr_seq_k fun _ _ => ?_
                          | (refine tr_region ?_; simp only [go_sem, List.getElem?_toArray, str_beq, reduceCtorEq, Nat.reduceEqDiff, Nat.reduceLT, Nat.reduceLeDiff, Nat.reduceAdd, Nat.reduceMul, Nat.reduceSub, Nat.reduceBEq, ↓reduceIte, bne_self_eq_false, Bool.and_false, Bool.false_and, Bool.true_or, Bool.false_or])
                          | (refine tr_draw (id := 9) follows 10000 [16] [0, 1, 2, 3, 4, 5, 6, 7, 8, 9, 10, 11, 12, 13, 14, 15, 16, 17, 18, 19] (by kernel_rfl) ?_; simp only [go_sem, List.getElem?_toArray, str_beq, reduceCtorEq, Nat.reduceEqDiff, Nat.reduceLT, Nat.reduceLeDiff, Nat.reduceAdd, Nat.reduceMul, Nat.reduceSub, Nat.reduceBEq, ↓reduceIte, bne_self_eq_false, Bool.and_false, Bool.false_and, Bool.true_or, Bool.false_or])
                          | (refine tr_draw (id := 14) follows 10000 [4, 9] [0, 1, 2, 3, 7, 8, 4, 5, 6, 9, 10, 11, 12] (by kernel_rfl) ?_; simp only [go_sem, List.getElem?_toArray, str_beq, reduceCtorEq, Nat.reduceEqDiff, Nat.reduceLT, Nat.reduceLeDiff, Nat.reduceAdd, Nat.reduceMul, Nat.reduceSub, Nat.reduceBEq, ↓reduceIte, bne_self_eq_false, Bool.and_false, Bool.false_and, Bool.true_or, Bool.false_or])
                          | refine k_of (by assumption) ?_
                          | refine tr_block ?_
                          | refine tr_scope ?_
                          | (refine tr_skip ?_; try simp only [ex_seq, ex_block])
                          | (refine tr_label ?_; try simp only [ex_seq, ex_block])
                          | (refine tr_exit ?_; try simp only [ex_seq_exit, ex_block_exit, Nat.reduceEqDiff, if_true, if_false, ex_seq, ex_block, reduceCtorEq, ↓reduceIte])
                          | (refine tr_ret ?_; try simp only [ex_seq_ret, ex_block_ret]))
                      refine (hQ _ _ [sA (pPolicy p)] ?_ (fun m => ?_)).2 <;> simp only [go_sem, List.getElem?_toArray, str_beq, reduceCtorEq, Nat.reduceEqDiff, Nat.reduceLT, Nat.reduceLeDiff, Nat.reduceAdd, Nat.reduceMul, Nat.reduceSub, Nat.reduceBEq, ↓reduceIte, bne_self_eq_false, Bool.and_false, Bool.false_and, Bool.true_or, Bool.false_or, Tryd.f24,]
end Go.Proofs.YtaeehadibckcjaaDoor

/-
  Chapter 11: the chapter's example; PrinterCalls, the walk.
-/
namespace Go.Proofs.YtaeehadibckcjaaDoor
open Go.RowKit Go.Vs Go.Vs.Ab
set_option maxRecDepth 100000
set_option maxHeartbeats 4000000
abbrev eAl : ByteArray := ⟨#[97, 108, 105, 99, 101]⟩
abbrev eBo : ByteArray := ⟨#[98, 111, 98]⟩
abbrev eCa : ByteArray := ⟨#[99, 97, 114, 111, 108]⟩
abbrev eP : ByteArray := ⟨#[112]⟩
abbrev eQ : ByteArray := ⟨#[113]⟩
abbrev eX : ByteArray := ⟨#[88]⟩
abbrev eZ : Tm := ⟨false, ⟨#[]⟩⟩
def at1 : Atm := ⟨eAl, eP, 1, ⟨true, eX⟩, eZ, eZ, eZ⟩
def at2 : Atm := ⟨eCa, eQ, 1, ⟨true, eX⟩, eZ, eZ, eZ⟩
theorem av_atm (a : Atm) : avOf (.agg a.cells) = some (atA a) := rfl
theorem pA_does (s p : ByteArray) (c : CV) (a : Atm) (hs : shuts [sA s, sA p, .c c] = some [sA s, sA p, .c c]) (h : answer (evFun Tryd.prog (lookH []) 100 18 [sA s, sA p, .c c] ⟨[], []⟩) = some (.agg a.cells)) : Does Tryd.prog 18 [sA s, sA p, .c c] (fun m => (atA a, m)) :=
  does_of_evA follows (callable_of Tryd.func18 (by kernel_rfl)) (av_atm a) hs h
theorem bld1A (a : Atm) : aBuildSlice Tryd.prog 43 1 [(0, .agg [.v (.string a.says), .v (.string a.pred), .v (.int .i64 a.n), .v (.bool a.a0.v), .v (.string a.a0.name), .v (.bool a.a1.v), .v (.string a.a1.name), .v (.bool a.a2.v), .v (.string a.a2.name), .v (.bool a.a3.v), .v (.string a.a3.name)])] = some ([a].flatMap atC) := by
  simp only [aBuildSlice, Tryd.underlying43, sz42, ze42]
  rfl
def gr1 : Grt := ⟨eBo, at1, true, [at2]⟩
abbrev tEx : ByteArray := ⟨#[97, 108, 105, 99, 101, 32, 115, 97, 121, 115, 32, 98, 111, 98, 32, 99, 97, 110, 115, 97, 121, 32, 112, 40, 88, 41, 32, 105, 102, 32, 99, 97, 114, 111, 108, 32, 115, 97, 121, 115, 32, 113, 40, 88, 41]⟩
theorem gr1_text : pGrant gr1 = tEx := by decide +kernel
theorem at1_sz : AtSz at1 := ⟨by decide, by decide, fun k => by match k with | 0 => decide | 1 => decide | 2 => decide | k + 3 => show at1.a3.name.size ≤ _; decide⟩
theorem at2_sz : AtSz at2 := ⟨by decide, by decide, fun k => by match k with | 0 => decide | 1 => decide | 2 => decide | k + 3 => show at2.a3.name.size ≤ _; decide⟩
theorem lives11_does : Does Tryd.prog 8 [] (fun m => (bA true, m)) := by
  have c1 := pA_does eAl eP (.sl true 1 [.v (.string eX)]) at1 rfl (by kernel_rfl)
  have c2 := pA_does eCa eQ (.sl true 1 [.v (.string eX)]) at2 rfl (by kernel_rfl)
  have cG := grant_does gr1 (by decide) at1_sz (fun a ha => by rw [show gr1.body = [at2] from rfl, List.mem_singleton] at ha; subst ha; exact at2_sz) (by decide)
  rw [gr1_text] at cG
  have b2 := bld1A at2
  refine does_of' Tryd.func8 rfl (by kernel_rfl) rfl Tryd.ntmps8 rfl rfl fun Q hQ => ?_
  repeat (first
      | refine tr_seq_k fun _ _ => ?_
      | (refine tr_region ?_; simp only [go_sem, List.getElem?_toArray, str_beq, reduceCtorEq, Nat.reduceEqDiff, Nat.reduceLT, Nat.reduceLeDiff, Nat.reduceAdd, Nat.reduceMul, Nat.reduceSub, Nat.reduceBEq, ↓reduceIte, bne_self_eq_false, Bool.and_false, Bool.false_and, Bool.true_or, Bool.false_or, b2])
      | (refine call_of (c1) ?_ ?_
         · first | rfl | simp only [go_sem, List.getElem?_toArray, str_beq, reduceCtorEq, Nat.reduceEqDiff, Nat.reduceLT, Nat.reduceLeDiff, Nat.reduceAdd, Nat.reduceMul, Nat.reduceSub, Nat.reduceBEq, ↓reduceIte, bne_self_eq_false, Bool.and_false, Bool.false_and, Bool.true_or, Bool.false_or, b2, shut_col]
         simp only [go_sem, List.getElem?_toArray, str_beq, reduceCtorEq, Nat.reduceEqDiff, Nat.reduceLT, Nat.reduceLeDiff, Nat.reduceAdd, Nat.reduceMul, Nat.reduceSub, Nat.reduceBEq, ↓reduceIte, bne_self_eq_false, Bool.and_false, Bool.false_and, Bool.true_or, Bool.false_or, b2])
      | (refine call_of (c2) ?_ ?_
         · first | rfl | simp only [go_sem, List.getElem?_toArray, str_beq, reduceCtorEq, Nat.reduceEqDiff, Nat.reduceLT, Nat.reduceLeDiff, Nat.reduceAdd, Nat.reduceMul, Nat.reduceSub, Nat.reduceBEq, ↓reduceIte, bne_self_eq_false, Bool.and_false, Bool.false_and, Bool.true_or, Bool.false_or, b2, shut_col]
         simp only [go_sem, List.getElem?_toArray, str_beq, reduceCtorEq, Nat.reduceEqDiff, Nat.reduceLT, Nat.reduceLeDiff, Nat.reduceAdd, Nat.reduceMul, Nat.reduceSub, Nat.reduceBEq, ↓reduceIte, bne_self_eq_false, Bool.and_false, Bool.false_and, Bool.true_or, Bool.false_or, b2])
      | (refine call_of (cG) ?_ ?_
         · first | rfl | simp only [go_sem, List.getElem?_toArray, str_beq, reduceCtorEq, Nat.reduceEqDiff, Nat.reduceLT, Nat.reduceLeDiff, Nat.reduceAdd, Nat.reduceMul, Nat.reduceSub, Nat.reduceBEq, ↓reduceIte, bne_self_eq_false, Bool.and_false, Bool.false_and, Bool.true_or, Bool.false_or, b2, shut_col]
         simp only [go_sem, List.getElem?_toArray, str_beq, reduceCtorEq, Nat.reduceEqDiff, Nat.reduceLT, Nat.reduceLeDiff, Nat.reduceAdd, Nat.reduceMul, Nat.reduceSub, Nat.reduceBEq, ↓reduceIte, bne_self_eq_false, Bool.and_false, Bool.false_and, Bool.true_or, Bool.false_or, b2])
      | refine k_of (by assumption) ?_
      | refine tr_block ?_
      | refine tr_scope ?_
      | (refine tr_skip ?_; try simp only [ex_seq, ex_block])
      | (refine tr_label ?_; try simp only [ex_seq, ex_block])
      | (refine tr_exit ?_; try simp only [ex_seq_exit, ex_block_exit, Nat.reduceEqDiff, if_true, if_false, ex_seq, ex_block, reduceCtorEq, ↓reduceIte])
      | (refine tr_ret ?_; try simp only [ex_seq_ret, ex_block_ret]))
  refine (hQ _ _ [bA true] ?_ (fun m => ?_)).2 <;> simp only [go_sem, List.getElem?_toArray, str_beq, reduceCtorEq, Nat.reduceEqDiff, Nat.reduceLT, Nat.reduceLeDiff, Nat.reduceAdd, Nat.reduceMul, Nat.reduceSub, Nat.reduceBEq, ↓reduceIte, bne_self_eq_false, Bool.and_false, Bool.false_and, Bool.true_or, Bool.false_or, Tryd.f8,]
end Go.Proofs.YtaeehadibckcjaaDoor

/-
  Chapter 11: PrinterCalls, the walk.
-/
namespace Go.Proofs.YtaeehadibckcjaaDoor
open Go.RowKit Go.Vs Go.Vs.Ab
set_option maxRecDepth 100000
set_option maxHeartbeats 4000000
structure PolNum (p : Pol) : Prop where
  prin : ∀ s ∈ p.prin, s.size ≤ reachBytes
  preds : ∀ x ∈ p.preds, -9223372036854775808 ≤ x.ar ∧ x.ar ≤ 9223372036854775807
  clears : ∀ c ∈ p.clears, ∀ s ∈ c.reads, s.size ≤ reachBytes
  quota : -9223372036854775808 ≤ p.quota ∧ p.quota ≤ 9223372036854775807
  budget : -9223372036854775808 ≤ p.budget ∧ p.budget ≤ 9223372036854775807
def sumSz : List ByteArray → Nat
  | [] => 0
  | s :: r => s.size + sumSz r
theorem sumSz_mem {l : List ByteArray} {s : ByteArray} (h : s ∈ l) : s.size ≤ sumSz l := by
  induction l with
  | nil => simp at h
  | cons x r ih =>
    rcases List.mem_cons.1 h with rfl | h
    · simp only [sumSz]; omega
    · have := ih h; simp only [sumSz]; omega
theorem ltx_sum {bytes : Int} (hb : bytes ≤ 1000000) : ∀ {l : List ByteArray} {n : Int}, (∀ s ∈ l, s.size ≤ reachBytes) → 0 ≤ n → n ≤ bytes → ltx bytes n l = true → n + (sumSz l : Nat) ≤ bytes
  | [], n, _, h0, h1, _ => by simp only [sumSz]; omega
  | s :: r, n, hs, h0, h1, h => by
    have hm := hs s (by simp)
    unfold reachBytes at hm
    have hw : IntKind.i64.wrap (n + (s.size : Int)) = n + s.size := wrap_in (by omega)
    unfold ltx at h
    rw [hw] at h
    split at h
    · cases h
    · have := ltx_sum hb (fun x hx => hs x (by simp [hx])) (by omega) (by omega) h
      simp only [sumSz]
      omega
theorem lightTx_sum {l : List ByteArray} {most bytes : Int} (hb : bytes ≤ 1000000) (h0 : 0 ≤ bytes) (hs : ∀ s ∈ l, s.size ≤ reachBytes) (h : lightTx l most bytes = true) : (sumSz l : Int) ≤ bytes := by
  unfold lightTx at h
  simp only [Bool.and_eq_true] at h
  have := ltx_sum hb hs (Int.le_refl 0) h0 h.2
  omega
theorem joinB_le (sep : ByteArray) : ∀ l : List ByteArray, (joinB l sep).size ≤ sumSz l + l.length * sep.size := fun l => by
  have key : ∀ r : List ByteArray, ∀ (x : ByteArray), (Lib.join ((x :: r).map (·.data.toList)) sep.data.toList).length ≤ sumSz (x :: r) + (x :: r).length * sep.size := fun r => by
    induction r with
    | nil =>
      intro x
      have : (Lib.join ([x].map (·.data.toList)) sep.data.toList).length = x.size := by simp [Lib.join]
      rw [this]
      simp only [sumSz]
      omega
    | cons y r ih =>
      intro x
      have h1 := ih y
      have : (Lib.join ((x :: y :: r).map (·.data.toList)) sep.data.toList).length = x.size + (sep.size + (Lib.join ((y :: r).map (·.data.toList)) sep.data.toList).length) := by
        simp [Lib.join]
      rw [this]
      simp only [sumSz, List.length_cons, Nat.add_mul] at h1 ⊢
      omega
  cases l with
  | nil =>
    have : (joinB [] sep).size = 0 := by simp [joinB, Lib.join]; rfl
    omega
  | cons x r => exact key r x
theorem light_parts {a : Atm} (h : lightA a = true) : a.says.size ≤ 300 ∧ a.pred.size ≤ 300 ∧ ∀ k, k < 4 → (a.arg k).name.size ≤ 300 := by
  unfold lightA lightK at h
  simp only [Bool.and_eq_true, decide_eq_true_eq, List.all_eq_true] at h
  refine ⟨h.1.1, h.1.2, fun k hk => ?_⟩
  have := h.2 (a.arg k) (by
    obtain rfl | rfl | rfl | rfl : k = 0 ∨ k = 1 ∨ k = 2 ∨ k = 3 := by omega
    all_goals simp [Atm.args, Atm.arg])
  simpa [tmL] using this
theorem lightA_sz {a : Atm} (h : lightA a = true) : AtSz a := by
  obtain ⟨h1, h2, h3⟩ := light_parts h
  refine ⟨by omega, by omega, fun k => ?_⟩
  by_cases hk : k < 4
  · have := h3 k hk; omega
  · obtain ⟨j, rfl⟩ : ∃ j, k = j + 4 := ⟨k - 4, by omega⟩
    have := h3 3 (by omega)
    show (a.arg 3).name.size ≤ 1000000
    omega
theorem lightAs_all {l : List Atm} {most : Int} (h : lightAs l most = true) : (∀ a ∈ l, AtSz a) ∧ (l.length : Int) ≤ most := by
  refine ⟨fun a ha => ?_, lightAs_len h⟩
  unfold lightAs at h
  simp only [Bool.and_eq_true, List.all_eq_true] at h
  exact lightA_sz (h.2 a ha)
theorem light_ok {p : Pol} (h : lightP p = true) (hn : PolNum p) : PolOk p ∧ ∀ c ∈ p.clears, ∀ s ∈ c.reads, s.size ≤ 1000000 := by
  simp only [lightP, Bool.and_eq_true, Bool.not_eq_true', decide_eq_false_iff_not, List.all_eq_true] at h
  obtain ⟨⟨⟨⟨⟨⟨⟨⟨h1, h2⟩, h3⟩, h4⟩, h5⟩, h6⟩, h7⟩, h8⟩, h9⟩ := h
  have hl1 := lightTx_len h1
  have hs1 := lightTx_sum (by decide) (by decide) hn.prin h1
  have hc : ∀ c ∈ p.clears, c.who.size ≤ 300 ∧ c.reads.length ≤ 40 ∧ sumSz c.reads ≤ 3000 := fun c hc => by
    have := h7 c hc
    simp only [gCl, Bool.and_eq_true, Bool.not_eq_true', decide_eq_false_iff_not] at this
    have a1 := lightTx_len this.2
    have a2 := lightTx_sum (by decide) (by decide) (hn.clears c hc) this.2
    omega
  refine ⟨⟨⟨by omega, fun s hs => ?_⟩, ⟨by omega, fun x hx => ?_⟩, ⟨by omega, fun c hcc => ?_⟩, hn.quota, hn.budget, ⟨by omega, fun r hr => ?_⟩, ⟨by omega, fun g hg => ?_⟩⟩, fun c hcc s hs => ?_⟩
  · have := sumSz_mem hs; omega
  · have := h6 x hx
    simp only [gPr, Bool.not_eq_true', decide_eq_false_iff_not] at this
    exact ⟨by omega, hn.preds x hx⟩
  · obtain ⟨q1, q2, q3⟩ := hc c hcc
    have := joinB_le tComma c.reads
    have z : tComma.size = 2 := rfl
    rw [z] at this
    exact ⟨by omega, by omega, by omega⟩
  · have := h8 r hr
    simp only [gRu, Bool.and_eq_true] at this
    obtain ⟨q1, q2⟩ := lightAs_all this.2
    exact ⟨lightA_sz this.1, q1, by omega⟩
  · have := h9 g hg
    simp only [gGr, Bool.and_eq_true, Bool.not_eq_true', decide_eq_false_iff_not] at this
    obtain ⟨q1, q2⟩ := lightAs_all this.2.2
    exact ⟨by omega, lightA_sz this.2.1, q1, by omega⟩
  · obtain ⟨q1, q2, q3⟩ := hc c hcc
    have := sumSz_mem hs
    omega
end Go.Proofs.YtaeehadibckcjaaDoor

/-
  Arguments of plain data whose texts are short, as the row's weights say. No program in sight.
-/
namespace Go.Vs.Ab
open Go.RowKit Go.Maps Go.ChangeShapes Go.WideShapes Go.Deep
def okz : Nat → World → Sh → Value → Prop
  | 0, _, _, _ => False
  | _ + 1, _, .str, v => ∃ s : ByteArray, v = .string s ∧ s.size ≤ reachBytes
  | _ + 1, _, .int, v => ∃ n : Int, v = .int .i64 n ∧ (Lit.int .i64 n).wf = true
  | _ + 1, _, .bool, v => ∃ b : Bool, v = .bool b
  | d + 1, w, .sl es, v => ∃ n xs, Rd w es.length v n xs ∧ ∀ i, i < n → all2 (okz d w) es ((xs.drop (i * es.length)).take es.length)
theorem okz_mono {w : World} : ∀ (d : Nat) (s : Sh) (v : Value), okz d w s v → okz (d + 1) w s v
  | 0, _, _, h => h.elim
  | d + 1, .str, _, h => h
  | d + 1, .int, _, h => h
  | d + 1, .bool, _, h => h
  | d + 1, .sl es, v, h => by
    obtain ⟨n, xs, h1, h2⟩ := h
    refine ⟨n, xs, h1, fun i hi => ?_⟩
    have := h2 i hi
    revert this
    generalize (xs.drop (i * es.length)).take es.length = ys
    intro this
    exact this.imp fun s v => okz_mono d s v
def Sized {H : Type} (P : Program) (t : TypeId) (x : DataW H) : Prop := ∀ n ∈ x.weights P t, n ≤ reachBytes
theorem weightsAll_mem {H : Type} {P : Program} {e : TypeId} : ∀ {l : List (DataW H)} {d : DataW H}, d ∈ l → ∀ n ∈ d.weights P e, n ∈ DataW.weightsAll P e l
  | x :: l, d, h, n, hn => by
    simp only [DataW.weightsAll, List.mem_append]
    rcases List.mem_cons.1 h with rfl | h
    · exact Or.inl hn
    · exact Or.inr (weightsAll_mem h n hn)
section
variable {H : Type} {enc : TypeId × Value → H} {P : Program} {w : World} {base : Nat} {spare : Nat → Bool} {held : Bool}
theorem sized_str {t : TypeId} {s : ByteArray} (h : Sized (H := H) P t (.lit (.string s.data.toList))) : s.size ≤ reachBytes := by
  have := h s.data.toList.length (by simp [DataW.weights])
  simpa using this
theorem sized_elem {t e : TypeId} {elems rest : List (DataW H)} {x : DataW H} (ht : P.underlying t = some (.slice e)) (h : Sized P t (.slice elems rest)) (hx : x ∈ elems) : Sized P e x := fun n hn =>
  h n (by simp only [DataW.weights, ht, List.mem_cons, List.mem_append]; exact Or.inr (Or.inl (weightsAll_mem hx n hn)))
theorem sized_part {t e : TypeId} {k : Nat} {parts : List (DataW H)} {x : DataW H} (ht : P.underlying t = some (.array k e)) (h : Sized P t (.agg parts)) (hx : x ∈ parts) : Sized P e x := fun n hn =>
  h n (by simp only [DataW.weights, ht]; exact weightsAll_mem hx n hn)
theorem sized_field {t : TypeId} {fs : Array Field} {parts : List (DataW H)} {i : Nat} {f : Field} {x : DataW H} (ht : P.underlying t = some (.struct fs)) (h : Sized P t (.agg parts)) (hf : fs[i]? = some f) (hx : parts[i]? = some x) : Sized P f.type x := fun n hn =>
  h n (by
    simp only [DataW.weights, ht]
    exact DataW.weights_mem_each (j := i) (by simp [hf]) hx n hn)
theorem fieldsZ_ok {rec : TypeId → Option (List Sh)} {d : Nat} {cs : List Value}
    (hrec : ∀ t ks, rec t = some ks → ∀ fuel cs x, DataW.trod enc P w base spare held fuel t cs = some x → Sized P t x.1 → all2 (okz d w) ks cs) :
    ∀ (fs : List Field) (off : Nat) (ks : List Sh), shFields P rec off fs = some ks →
      (∀ f ∈ fs, ∃ fuel x, DataW.trod enc P w base spare held fuel f.type ((cs.drop f.offset).take (P.cellsOf f.type)) = some x ∧ Sized P f.type x.1) →
      all2 (okz d w) ks ((cs.drop off).take ks.length)
  | [], off, ks, h, _ => by
    simp only [shFields, Option.some.injEq] at h
    subst h
    exact trivial
  | f :: fs, off, ks, h, hall => by
    unfold shFields at h
    split at h
    · rename_i hoff
      split at h
      · rename_i a b ha hb
        split at h
        · rename_i hlen
          simp only [Option.some.injEq] at h
          subst h
          obtain ⟨fuel, x, hx, hz⟩ := hall f (by simp)
          have h1 := hrec _ _ ha _ _ _ hx hz
          have h2 := fieldsZ_ok hrec fs _ b hb (fun g hg => hall g (by simp [hg]))
          rw [hoff] at h1
          have e1 := forall2_length h1
          have e : (cs.drop off).take (a ++ b).length = (cs.drop off).take (P.cellsOf f.type) ++ (cs.drop (off + P.cellsOf f.type)).take b.length := by
            rw [List.length_append, hlen, List.take_add, List.drop_drop]
          rw [e]
          exact forall2_append h1 h2
        · cases h
      · cases h
    · cases h
theorem shape_okz : ∀ (d : Nat) (t : TypeId) (ks : List Sh), shapeOf P d t = some ks → ∀ fuel cs x, DataW.trod enc P w base spare held fuel t cs = some x → Sized P t x.1 → all2 (okz d w) ks cs
  | 0, _, _, h, _, _, _, _, _ => by cases h
  | d + 1, t, ks, h, fuel, cs, x, hx, hz => by
    unfold shapeOf at h
    split at h
    · rename_i ht
      simp only [Option.some.injEq] at h; subst h
      obtain ⟨b, rfl, _⟩ := DataW.trod_bool ht hx
      exact ⟨⟨b, rfl⟩, trivial⟩
    · rename_i ht
      simp only [Option.some.injEq] at h; subst h
      obtain ⟨n, rfl, _, hw⟩ := DataW.trod_int ht hx
      exact ⟨⟨n, rfl, hw⟩, trivial⟩
    · rename_i ht
      simp only [Option.some.injEq] at h; subst h
      obtain ⟨s, rfl, hxe, hs⟩ := DataW.trod_string ht hx
      subst hxe
      exact ⟨⟨s, rfl, sized_str hz⟩, trivial⟩
    · rename_i e ht
      split at h
      · rename_i es he
        split at h
        · rename_i hlen
          simp only [Option.some.injEq] at h; subst h
          rcases open_slice ht hx with ⟨rfl, _⟩ | ⟨a, len, cap, m, n, D, Pl, rfl, _, hl, hm, hmm, hxe, hel⟩
          · exact ⟨⟨0, [], rd_nil w _, fun i hi => absurd hi (Nat.not_lt_zero _)⟩, trivial⟩
          · refine ⟨?_, trivial⟩
            subst hxe
            have hlm : len ≤ m := by rw [hmm]; split <;> omega
            have hch : ∀ i, i < len → ∃ c : List Value, w.cells? base (a.add (i * P.cellsOf e)) (P.cellsOf e) = some c ∧ all2 (okz d w) es c := fun i hi => by
              obtain ⟨c, h1, h2⟩ := hel i (by omega)
              exact ⟨c, h1, shape_okz d e es he _ _ _ h2 (sized_elem ht hz (List.mem_map.2 ⟨i, List.mem_range.2 hi, rfl⟩))⟩
            obtain ⟨C, hC⟩ := choose_lt hch
            obtain ⟨xs, x1, x2, x3⟩ := cells_rows (fun i hi => (hC i hi).1)
            refine ⟨len, xs, ⟨by rw [x1, hlen], Or.inr ⟨a, cap, rfl, hl, hm, x3⟩⟩, fun i hi => ?_⟩
            rw [hlen, x2 i hi]
            exact (hC i hi).2
        · cases h
      · cases h
    · rename_i fs ht
      split at h
      · rename_i ks' hk
        split at h
        · rename_i hlen
          simp only [Option.some.injEq] at h; subst h
          obtain ⟨xs, n, _, hxe, hcl, hxl, hf⟩ := DataW.trod_struct ht hx
          subst hxe
          have := fieldsZ_ok (cs := cs) (shape_okz d) fs.toList 0 ks' hk (fun f hfm => by
            obtain ⟨i, hi, hif⟩ := List.mem_iff_getElem.1 hfm
            have h2 : i < fs.size := by simpa using hi
            have hfi : fs[i]? = some f := by rw [← hif]; simp [h2]
            have := hf i f hfi
            rw [List.getElem?_eq_getElem (by omega)] at this
            exact ⟨n, _, this, sized_field ht hz hfi (by rw [List.getElem?_map, List.getElem?_eq_getElem (by omega)]; rfl)⟩)
          rw [List.drop_zero, List.take_of_length_le (by omega)] at this
          exact this.imp fun s v => okz_mono d s v
        · cases h
      · cases h
    · rename_i n e ht
      split at h
      · rename_i es he
        split at h
        · rename_i hlen
          simp only [Option.some.injEq] at h; subst h
          obtain ⟨xs, m, _, hxe, hcl, hxl, hf⟩ := DataW.trod_array ht hx
          subst hxe
          have key : ∀ k, k ≤ n → all2 (okz (d + 1) w) (List.replicate k es).flatten (cs.take (k * P.cellsOf e)) := by
            intro k hk
            induction k with
            | zero => simp [all2]
            | succ k ih =>
              rw [List.replicate_succ', List.flatten_append, Nat.succ_mul, List.take_add]
              refine forall2_append (ih (by omega)) ?_
              have hk2 := hf k (by omega)
              rw [List.getElem?_eq_getElem (by omega)] at hk2
              have := (shape_okz d e es he _ _ _ hk2 (sized_part ht hz (List.mem_map.2 ⟨_, List.getElem_mem (by omega), rfl⟩))).imp fun s v => okz_mono d s v
              simpa using this
          have := key n (Nat.le_refl _)
          rwa [List.take_of_length_le (by rw [hcl, ← hlen.2, hlen.1]; omega)] at this
        · cases h
      · cases h
    · cases h
end
def Decz {T : Type} (d : Nat) (w : World) (ks : List Sh) (enc : T → List CV) (good : T → Prop) : Prop := ∀ cs, all2 (okz d w) ks cs → ∃ x, RepCs (all w).cell (enc x) cs ∧ good x
theorem decz_str {d : Nat} {w : World} {v : Value} (h : okz d w .str v) : ∃ s : ByteArray, RepC (all w).cell (.v (.string s)) v ∧ s.size ≤ reachBytes := by
  cases d with
  | zero => exact h.elim
  | succ d => obtain ⟨s, rfl, hs⟩ := h; exact ⟨s, .v rfl, hs⟩
theorem decz_int {d : Nat} {w : World} {v : Value} (h : okz d w .int v) : ∃ n : Int, RepC (all w).cell (.v (.int .i64 n)) v ∧ (Lit.int .i64 n).wf = true := by
  cases d with
  | zero => exact h.elim
  | succ d => obtain ⟨s, rfl, hs⟩ := h; exact ⟨s, .v rfl, hs⟩
theorem decz_bool {d : Nat} {w : World} {v : Value} (h : okz d w .bool v) : ∃ b : Bool, RepC (all w).cell (.v (.bool b)) v := by
  cases d with
  | zero => exact h.elim
  | succ d => obtain ⟨s, rfl⟩ := h; exact ⟨s, .v rfl⟩
theorem decz_sl {T : Type} {d : Nat} {w : World} {es : List Sh} {enc : T → List CV} {good : T → Prop} (hdec : Decz d w es enc good) {v : Value} (h : okz (d + 1) w (.sl es) v) :
    ∃ l : List T, RepC (all w).cell (.sl false l.length (l.flatMap enc)) v ∧ ∀ x ∈ l, good x := by
  obtain ⟨n, cs, h1, h2⟩ := h
  obtain ⟨l, h3, h4, h5⟩ := rowsC_of (C := (all w).cell) enc good es.length n cs h1.1 (fun i hi => hdec _ (h2 i hi))
  refine ⟨l, ?_, h5⟩
  rcases h1.2 with ⟨rfl, h0⟩ | ⟨a, cap, rfl, g3, g4, g5⟩
  · have : l = [] := List.eq_nil_of_length_eq_zero (by omega)
    subst this
    exact .sl (xs := []) rfl (fun i c x h => by simp at h) (Nat.le_refl _) ⟨Nat.zero_le _, fun _ => rfl⟩ (fun e => by cases e) (fun j x hx => by simp at hx)
  · rw [h3]
    refine .sl (xs := cs) h4.1 h4.2 g3 ⟨g4, fun e => by cases e⟩ (fun e => by cases e) (fun j x hx => ?_)
    have h6 := g5 j x hx
    have hl := (List.getElem?_eq_some_iff.1 hx).1
    have h7 := g5 0 (cs[0]'(by omega)) (by simp)
    have hsp := spot_of_add h7
    obtain ⟨g, off, sp⟩ := a
    simp only at hsp
    subst hsp
    rw [add_none] at h6
    exact ⟨g, off, rfl, h6⟩
section
variable {H : Type} {enc : TypeId × Value → H} {P : Program} {w : World} {base b0 : Nat} {spare : Nat → Bool} {held : Bool} {r : Reach} {d : Nat} {t : TypeId} {v : Value} {x : DataW H} {ps : List MemPlace}
theorem openz_sl {T : Type} {encT : T → List CV} {good : T → Prop} {e : TypeId} {es : List Sh} (ht : P.underlying t = some (.slice e)) (hs : shapeOf P (d + 1) t = some [.sl es]) (hdec : Decz d w es encT good) (hval : Value.okWide P w r b0 t v) (hd : DataW.Trod enc P w base spare held t v x ps) (hz : Sized P t x) :
    ∃ l : List T, Rep (all w) (slR encT false l) v ∧ ∀ x ∈ l, good x := by
  obtain ⟨a, l, c, rfl⟩ := okWide_slice ht hval
  obtain ⟨fuel, hf⟩ := hd
  obtain ⟨l, h1, h2⟩ := decz_sl hdec (shape_okz (d + 1) t [.sl es] hs _ _ _ hf hz).1
  exact ⟨l, .c h1, h2⟩
theorem openz_agg {T : Type} {encT : T → List CV} {good : T → Prop} {fs : Array Field} {ks : List Sh} (ht : P.underlying t = some (.struct fs)) (hs : shapeOf P d t = some ks) (hdec : Decz d w ks encT good) (hval : Value.okWide P w r b0 t v) (hd : DataW.Trod enc P w base spare held t v x ps) (hz : Sized P t x) :
    ∃ a : T, Rep (all w) (.agg (encT a)) v ∧ good a := by
  obtain ⟨cs, rfl, _⟩ := okWide_struct ht hval
  obtain ⟨fuel, hf⟩ := hd
  obtain ⟨a, h1, h2⟩ := hdec cs.toList (shape_okz d t ks hs _ _ _ hf hz)
  exact ⟨a, .agg (by simpa using h1), h2⟩
theorem openz_str (ht : P.underlying t = some .string) (hval : Value.okWide P w r b0 t v) (hd : DataW.Trod enc P w base spare held t v x ps) (hz : Sized P t x) : ∃ s : ByteArray, Rep (all w) (sA s) v ∧ s.size ≤ reachBytes := by
  obtain ⟨s, rfl⟩ := okWide_string ht hval
  obtain ⟨fuel, hf⟩ := hd
  obtain ⟨s', h, hxe, hw⟩ := DataW.trod_string ht hf
  simp [Value.cells] at h
  subst h
  injection hxe with hx1 hx2
  subst hx1
  exact ⟨_, .c (.v rfl), sized_str hz⟩
end
theorem all2_split {α β : Type} {R : α → β → Prop} : ∀ {a b : List α} {cs : List β}, all2 R (a ++ b) cs → ∃ x y, cs = x ++ y ∧ all2 R a x ∧ all2 R b y
  | [], b, cs, h => ⟨[], cs, rfl, trivial, h⟩
  | k :: a, b, cs, h => by
    obtain ⟨c, r, rfl, h0, h1⟩ := all2_cons (show all2 R (k :: (a ++ b)) cs from h)
    obtain ⟨x, y, rfl, h2, h3⟩ := all2_split h1
    exact ⟨c :: x, y, rfl, ⟨h0, h2⟩, h3⟩
theorem maxLen_of {n : Nat} (h : n ≤ reachBytes) : n ≤ maxLen := Nat.le_trans h (by decide)
theorem i64_of {n : Int} (h : (Lit.int .i64 n).wf = true) : -9223372036854775808 ≤ n ∧ n ≤ 9223372036854775807 := by
  simp only [Lit.wf, Bool.and_eq_true, decide_eq_true_eq] at h
  exact h
theorem decz_sl1 {T : Type} {d : Nat} {w : World} {es : List Sh} {enc : T → List CV} {good : T → Prop} (hdec : Decz d w es enc good) : Decz (d + 1) w [.sl es] (fun l : List T => [.sl false l.length (l.flatMap enc)]) (fun l => ∀ x ∈ l, good x) := fun cs t0 => by
  obtain ⟨c0, r0, rfl, h0, t1⟩ := all2_cons t0
  obtain rfl := all2_nil t1
  obtain ⟨l, h1, h2⟩ := decz_sl hdec h0
  exact ⟨l, .cons h1 .nil, h2⟩
theorem stZ {d : Nat} {w : World} : Decz d w [.str] stC (fun s => s.size ≤ reachBytes) := fun cs t0 => by
  obtain ⟨c0, r0, rfl, h0, t1⟩ := all2_cons t0
  obtain rfl := all2_nil t1
  obtain ⟨x0, e0, g0⟩ := decz_str h0
  exact ⟨x0, .cons e0 .nil, g0⟩
def atSh : List Sh := [.str, .str, .int, .bool, .str, .bool, .str, .bool, .str, .bool, .str]
theorem atZ {d : Nat} {w : World} : Decz d w atSh atC AtOk := fun cs t => by
  obtain ⟨c0, r0, rfl, h0, t⟩ := all2_cons t
  obtain ⟨c1, r1, rfl, h1, t⟩ := all2_cons t
  obtain ⟨c2, r2, rfl, h2, t⟩ := all2_cons t
  obtain ⟨c3, r3, rfl, h3, t⟩ := all2_cons t
  obtain ⟨c4, r4, rfl, h4, t⟩ := all2_cons t
  obtain ⟨c5, r5, rfl, h5, t⟩ := all2_cons t
  obtain ⟨c6, r6, rfl, h6, t⟩ := all2_cons t
  obtain ⟨c7, r7, rfl, h7, t⟩ := all2_cons t
  obtain ⟨c8, r8, rfl, h8, t⟩ := all2_cons t
  obtain ⟨c9, r9, rfl, h9, t⟩ := all2_cons t
  obtain ⟨c10, r10, rfl, h10, t⟩ := all2_cons t
  obtain rfl := all2_nil t
  obtain ⟨x0, e0, g0⟩ := decz_str h0
  obtain ⟨x1, e1, g1⟩ := decz_str h1
  obtain ⟨x2, e2, g2⟩ := decz_int h2
  obtain ⟨x3, e3⟩ := decz_bool h3
  obtain ⟨x4, e4, g4⟩ := decz_str h4
  obtain ⟨x5, e5⟩ := decz_bool h5
  obtain ⟨x6, e6, g6⟩ := decz_str h6
  obtain ⟨x7, e7⟩ := decz_bool h7
  obtain ⟨x8, e8, g8⟩ := decz_str h8
  obtain ⟨x9, e9⟩ := decz_bool h9
  obtain ⟨x10, e10, g10⟩ := decz_str h10
  exact ⟨⟨x0, x1, x2, ⟨x3, x4⟩, ⟨x5, x6⟩, ⟨x7, x8⟩, ⟨x9, x10⟩⟩, .cons e0 (.cons e1 (.cons e2 (.cons e3 (.cons e4 (.cons e5 (.cons e6 (.cons e7 (.cons e8 (.cons e9 (.cons e10 .nil)))))))))), maxLen_of g0, maxLen_of g1, g2, maxLen_of g4, maxLen_of g6, maxLen_of g8, maxLen_of g10⟩
theorem sized_of {H : Type} {P : Program} {ts : List TypeId} {ds : List (DataW H)} (h : (DataW.weightsEach P ts ds).all (· ≤ reachBytes) = true) {j : Nat} {t : TypeId} {x : DataW H} (ht : ts[j]? = some t) (hd : ds[j]? = some x) : Sized P t x := fun n hn => by
  simpa using List.all_eq_true.1 h _ (DataW.weights_mem_each ht hd n hn)
end Go.Vs.Ab

/-
  Chapter 11: a policy as the row hands it on.
-/
namespace Go.Proofs.YtaeehadibckcjaaDoor
open Go.RowKit Go.Vs Go.Vs.Ab
theorem prZ {d : Nat} {w : World} : Decz d w [.str, .int] prC (fun p => -9223372036854775808 ≤ p.ar ∧ p.ar ≤ 9223372036854775807) := fun cs t => by
  obtain ⟨c0, r0, rfl, h0, t⟩ := all2_cons t
  obtain ⟨c1, r1, rfl, h1, t⟩ := all2_cons t
  obtain rfl := all2_nil t
  obtain ⟨x0, e0, g0⟩ := decz_str h0
  obtain ⟨x1, e1, g1⟩ := decz_int h1
  exact ⟨⟨x0, x1⟩, .cons e0 (.cons e1 .nil), i64_of g1⟩
theorem clZ {d : Nat} {w : World} : Decz (d + 1) w [.str, .sl [.str]] clC (fun c => ∀ s ∈ c.reads, s.size ≤ reachBytes) := fun cs t => by
  obtain ⟨c0, r0, rfl, h0, t⟩ := all2_cons t
  obtain ⟨c1, r1, rfl, h1, t⟩ := all2_cons t
  obtain rfl := all2_nil t
  obtain ⟨x0, e0, g0⟩ := decz_str h0
  obtain ⟨l, e1, g1⟩ := decz_sl stZ h1
  exact ⟨⟨x0, false, l⟩, .cons e0 (.cons e1 .nil), g1⟩
theorem ruZ {d : Nat} {w : World} : Decz (d + 1) w (atSh ++ [.sl atSh]) ruC (fun r => AtOk r.head ∧ ∀ a ∈ r.body, AtOk a) := fun cs t => by
  obtain ⟨x, y, rfl, t0, t1⟩ := all2_split t
  obtain ⟨a, e0, g0⟩ := atZ x t0
  obtain ⟨l, e1, g1⟩ := decz_sl1 atZ y t1
  exact ⟨⟨a, false, l⟩, RepCs.append e0 e1, g0, g1⟩
theorem grZ {d : Nat} {w : World} : Decz (d + 1) w (.str :: (atSh ++ [.sl atSh])) grC (fun g => AtOk g.head ∧ ∀ a ∈ g.body, AtOk a) := fun cs t => by
  obtain ⟨c0, r0, rfl, h0, t⟩ := all2_cons t
  obtain ⟨x, y, rfl, t0, t1⟩ := all2_split t
  obtain ⟨s, e, _⟩ := decz_str h0
  obtain ⟨a, e0, g0⟩ := atZ x t0
  obtain ⟨l, e1, g1⟩ := decz_sl1 atZ y t1
  exact ⟨⟨s, a, false, l⟩, .cons e (RepCs.append e0 e1), g0, g1⟩
def poSh : List Sh := [.sl [.str], .sl [.str, .int], .sl [.str, .sl [.str]], .int, .int, .sl (atSh ++ [.sl atSh]), .sl (.str :: (atSh ++ [.sl atSh]))]
theorem poZ {d : Nat} {w : World} : Decz (d + 2) w poSh poC PolNum := fun cs t => by
  obtain ⟨c0, r0, rfl, h0, t⟩ := all2_cons t
  obtain ⟨c1, r1, rfl, h1, t⟩ := all2_cons t
  obtain ⟨c2, r2, rfl, h2, t⟩ := all2_cons t
  obtain ⟨c3, r3, rfl, h3, t⟩ := all2_cons t
  obtain ⟨c4, r4, rfl, h4, t⟩ := all2_cons t
  obtain ⟨c5, r5, rfl, h5, t⟩ := all2_cons t
  obtain ⟨c6, r6, rfl, h6, t⟩ := all2_cons t
  obtain rfl := all2_nil t
  obtain ⟨l0, e0, g0⟩ := decz_sl stZ h0
  obtain ⟨l1, e1, g1⟩ := decz_sl prZ h1
  obtain ⟨l2, e2, g2⟩ := decz_sl clZ h2
  obtain ⟨q, e3, g3⟩ := decz_int h3
  obtain ⟨b, e4, g4⟩ := decz_int h4
  obtain ⟨l5, e5, g5⟩ := decz_sl ruZ h5
  obtain ⟨l6, e6, g6⟩ := decz_sl grZ h6
  exact ⟨⟨false, l0, false, l1, false, l2, q, b, false, l5, false, l6⟩, .cons e0 (.cons e1 (.cons e2 (.cons e3 (.cons e4 (.cons e5 (.cons e6 .nil)))))), g0, g1, g2, i64_of g3, i64_of g4⟩
end Go.Proofs.YtaeehadibckcjaaDoor
