/-
  Chapter 4: contracts on abstract values: own, the reference's put.
-/
import Derived.Test.YtkkkpbnehpfkkaaTp
import Derived.Test.YtkkkpbnehpfkkaaAp
set_option linter.unusedSimpArgs false
namespace Go.Proofs.Ytkkkpbnehpfkkaa
open Go.Vs Go.Vs.Ab

theorem info_b : info3 Try.prog 36 = some (3, 40) := by simp only [info3, sz36, by36, ze36]; rfl
theorem build1B {v : AV} {ds : List CV} (hc : cells v = some ds) (hd : ds.length = 3) : aBuildSlice Try.prog 22 1 [(0, v)] = some ds := build1 Try.underlying22 sz36 ze36 (by decide) (by decide) (by decide) hc hd
theorem build1B' (s : ByteArray) (v : Bool) (n : ByteArray) : aBuildSlice Try.prog 22 1 [(0, .agg [.v (.string s), .v (.bool v), .v (.string n)])] = some [.v (.string s), .v (.bool v), .v (.string n)] := build1B rfl rfl
theorem one_max : (1 ≤ maxLen) = True := eq_true (by decide)
theorem appB (hp : List Blk) (l : List Bd) (x : Bd) (hl : l.length ≤ 1000000) : aAppend Try.prog ⟨hp, colH 36 3 l⟩ 22 (colA bdC 0 l) (.c (.sl true 1 [.v (.string x.var), .v (.bool x.t.v), .v (.string x.t.name)])) = some (colA bdC 0 (l ++ [x]), ⟨hp, colH 36 3 (l ++ [x])⟩) :=
  app_col0 (P := Try.prog) bdC (size := 3) (bytes := 40) (fun _ => rfl) Try.underlying22 info_b (hp := hp) (l := l) (x := x) (ex := true) (Nat.le_trans (show _ ≤ 1000001 by omega) (by decide)) (by omega)

set_option maxRecDepth 10000
theorem own_does (b : Bd) : Does Try.prog 44 [bdA b] (fun m => (bA (pown b), m)) := by
  refine does_of' Try.func44 rfl (by kernel_rfl) rfl Try.ntmps44 rfl rfl fun Q hQ => ?_
  cases hv : b.t.v with
  | false =>
    repeat (first
        | refine tr_seq_k fun _ _ => ?_
        | (refine tr_region ?_; simp only [go_sem, List.getElem?_toArray, str_beq, reduceCtorEq, Nat.reduceEqDiff, Nat.reduceLT, Nat.reduceLeDiff, Nat.reduceAdd, Nat.reduceMul, Nat.reduceSub, Nat.reduceBEq, ↓reduceIte, hv])
        | refine k_of (by assumption) ?_
        | refine tr_block ?_
        | refine tr_scope ?_
        | (refine tr_skip ?_; try simp only [ex_seq, ex_block])
        | (refine tr_exit ?_; try simp only [ex_seq_exit, ex_block_exit, Nat.reduceEqDiff, if_true, if_false, ex_seq, ex_block, reduceCtorEq, ↓reduceIte])
        | (refine tr_ret ?_; try simp only [ex_seq_ret, ex_block_ret]))
    refine (hQ _ _ [bA false] ?_ (fun m => ?_)).2 <;> simp only [go_sem, List.getElem?_toArray, str_beq, reduceCtorEq, Nat.reduceEqDiff, Nat.reduceLT, Nat.reduceLeDiff, Nat.reduceAdd, Nat.reduceMul, Nat.reduceSub, Nat.reduceBEq, ↓reduceIte, Try.f44, pown, hv, Bool.false_and]
  | true =>
    repeat (first
        | refine tr_seq_k fun _ _ => ?_
        | (refine tr_region ?_; simp only [go_sem, List.getElem?_toArray, str_beq, reduceCtorEq, Nat.reduceEqDiff, Nat.reduceLT, Nat.reduceLeDiff, Nat.reduceAdd, Nat.reduceMul, Nat.reduceSub, Nat.reduceBEq, ↓reduceIte, hv])
        | refine k_of (by assumption) ?_
        | refine tr_block ?_
        | refine tr_scope ?_
        | (refine tr_skip ?_; try simp only [ex_seq, ex_block])
        | (refine tr_exit ?_; try simp only [ex_seq_exit, ex_block_exit, Nat.reduceEqDiff, if_true, if_false, ex_seq, ex_block, reduceCtorEq, ↓reduceIte])
        | (refine tr_ret ?_; try simp only [ex_seq_ret, ex_block_ret]))
    refine (hQ _ _ [bA (decide (b.t.name = b.var))] ?_ (fun m => ?_)).2 <;> simp only [go_sem, List.getElem?_toArray, str_beq, reduceCtorEq, Nat.reduceEqDiff, Nat.reduceLT, Nat.reduceLeDiff, Nat.reduceAdd, Nat.reduceMul, Nat.reduceSub, Nat.reduceBEq, ↓reduceIte, Try.f44, pown, hv, Bool.true_and]

/-! ### put -/
theorem gt_blt (x y : ByteArray) : (!(blt x y || decide (x = y))) = blt y x := by
  rcases blt_total x y with h | h | h
  · rw [h, blt_asymm h]; rfl
  · subst h; simp [blt_irrefl]
  · rw [h, blt_asymm h]
    have := blt_ne h
    simp [Ne.symm this]
def putK (b : Bd) (l : List Bd) : List Bd × Bool := l.foldl (fun s x => (s.1 ++ (if !s.2 && blt b.var x.var then [b] else []) ++ [x], s.2 || blt b.var x.var)) ([], false)
theorem putK_next {b : Bd} {l : List Bd} {k : Nat} (h : k < l.length) : putK b (l.take (k + 1)) = ((putK b (l.take k)).1 ++ (if !(putK b (l.take k)).2 && blt b.var l[k].var then [b] else []) ++ [l[k]], (putK b (l.take k)).2 || blt b.var l[k].var) := by
  unfold putK
  rw [List.take_succ_eq_append_getElem h, List.foldl_append]
  rfl
theorem putF_true (b : Bd) : ∀ (l acc : List Bd), l.foldl (fun s x => (s.1 ++ (if !s.2 && blt b.var x.var then [b] else []) ++ [x], s.2 || blt b.var x.var)) (acc, true) = (acc ++ l, true)
  | [], acc => by simp
  | x :: l, acc => by
    rw [List.foldl_cons]
    have := putF_true b l (acc ++ [x])
    simp at this ⊢
    exact this
theorem putF_false (b : Bd) : ∀ (l acc : List Bd), (let r := l.foldl (fun s x => (s.1 ++ (if !s.2 && blt b.var x.var then [b] else []) ++ [x], s.2 || blt b.var x.var)) (acc, false); if r.2 then r.1 else r.1 ++ [b]) = acc ++ pwith l b
  | [], acc => by simp [pwith]
  | x :: l, acc => by
    rw [List.foldl_cons]
    cases h : blt b.var x.var with
    | true =>
      have := putF_true b l (acc ++ [b] ++ [x])
      simp [pwith, h] at this ⊢
      rw [this]
      simp
    | false =>
      have := putF_false b l (acc ++ [x])
      simp [pwith, h] at this ⊢
      rw [this]
theorem putK_end (b : Bd) (l : List Bd) : (if (putK b l).2 then (putK b l).1 else (putK b l).1 ++ [b]) = pwith l b := by
  have := putF_false b l []
  simpa [putK] using this
theorem putK_len (b : Bd) (l : List Bd) : (putK b l).1.length ≤ 2 * l.length := by
  have key : ∀ (l acc : List Bd) (s : Bool), (l.foldl (fun s x => (s.1 ++ (if !s.2 && blt b.var x.var then [b] else []) ++ [x], s.2 || blt b.var x.var)) (acc, s)).1.length ≤ acc.length + 2 * l.length := by
    intro l
    induction l with
    | nil => intro acc s; simp
    | cons x l ih =>
      intro acc s
      rw [List.foldl_cons]
      refine Nat.le_trans (ih _ _) ?_
      rw [List.length_append, List.length_append, List.length_cons, List.length_cons]
      split <;> simp <;> omega
  have := key l [] false
  rw [List.length_nil, Nat.zero_add] at this
  exact this

set_option maxHeartbeats 2000000
theorem put_does (l : List Bd) (b : Bd) (ex : Bool) (hl : l.length ≤ 100000) : Does Try.prog 55 [slB ex l, bdA b] (fun m => (slB (pwith l b).isEmpty (pwith l b), m)) := by
  refine Does.shut (e := 36) (size := 3) ?_
  refine does_of' Try.func55 rfl (by kernel_rfl) rfl Try.ntmps55 rfl rfl fun Q hQ => ?_
  repeat (first
      | refine tr_seq_k fun _ _ => ?_
      | (refine tr_region ?_; simp only [go_sem, List.getElem?_toArray, str_beq, reduceCtorEq, Nat.reduceEqDiff, Nat.reduceLT, Nat.reduceLeDiff, Nat.reduceAdd, Nat.reduceMul, Nat.reduceSub, Nat.reduceBEq, ↓reduceIte])
      | (refine tr_drawC (id := 6) follows 10000 (by kernel_rfl) ?_; simp only [go_sem, List.getElem?_toArray, str_beq, reduceCtorEq, Nat.reduceEqDiff, Nat.reduceLT, Nat.reduceLeDiff, Nat.reduceAdd, Nat.reduceMul, Nat.reduceSub, Nat.reduceBEq, ↓reduceIte])
      | refine k_of (by assumption) ?_
      | refine tr_block ?_
      | refine tr_scope ?_
      | (refine tr_skip ?_; try simp only [ex_seq, ex_block])
      | (refine tr_exit ?_; try simp only [ex_seq_exit, ex_block_exit, Nat.reduceEqDiff, if_true, if_false, ex_seq, ex_block, reduceCtorEq, ↓reduceIte])
      | (refine tr_ret ?_; try simp only [ex_seq_ret, ex_block_ret]))
  refine tr_loop_k (σ := Nat) (fun k => [(0, slB ex l), (3, .ptr 0 0), (5, colA bdC 0 (putK b (l.take k)).1), (6, bA (putK b (l.take k)).2), (7, iA k)]) (fun k => ⟨[⟨false, (bdC b).map .c⟩], colH 36 3 (putK b (l.take k)).1⟩)
    (fun k => k ≤ l.length) (fun k => l.length - k) 0 (by omega) ⟨rfl, rfl, rfl, rfl, rfl, trivial⟩ rfl ?_
  rintro k hk K hK
  repeat (first
      | refine tr_seq_k fun _ _ => ?_
      | (refine tr_region ?_; simp only [go_sem, List.getElem?_toArray, str_beq, reduceCtorEq, Nat.reduceEqDiff, Nat.reduceLT, Nat.reduceLeDiff, Nat.reduceAdd, Nat.reduceMul, Nat.reduceSub, Nat.reduceBEq, ↓reduceIte])
      | (refine tr_drawC (id := 6) follows 10000 (by kernel_rfl) ?_; simp only [go_sem, List.getElem?_toArray, str_beq, reduceCtorEq, Nat.reduceEqDiff, Nat.reduceLT, Nat.reduceLeDiff, Nat.reduceAdd, Nat.reduceMul, Nat.reduceSub, Nat.reduceBEq, ↓reduceIte])
      | refine k_of (by assumption) ?_
      | refine tr_block ?_
      | refine tr_scope ?_
      | (refine tr_skip ?_; try simp only [ex_seq, ex_block])
      | (refine tr_exit ?_; try simp only [ex_seq_exit, ex_block_exit, Nat.reduceEqDiff, if_true, if_false, ex_seq, ex_block, reduceCtorEq, ↓reduceIte])
      | (refine tr_ret ?_; try simp only [ex_seq_ret, ex_block_ret]))
  refine tr_cond rfl (fun ht => ?_) (fun hf => ?_)
  · have hlt : k < l.length := by simpa using ht
    have ws := wrap_succ (show k ≤ 1000000000 by omega)
    have hn := putK_next (b := b) hlt
    have len := putK_len b (l.take k)
    rw [List.length_take, Nat.min_eq_left hk] at len
    generalize putK b (l.take k) = s at *
    obtain ⟨o, i⟩ := s
    simp only at hn len ⊢
    cases i with
    | true =>
      simp only [Bool.not_true, Bool.false_and, Bool.false_eq_true, if_false, List.append_nil, Bool.true_or] at hn
      have aB := fun hp => appB hp o l[k] (by omega)
      repeat (first
          | refine tr_seq_k fun _ _ => ?_
          | (refine tr_region ?_; simp only [go_sem, List.getElem?_toArray, str_beq, reduceCtorEq, Nat.reduceEqDiff, Nat.reduceLT, Nat.reduceLeDiff, Nat.reduceAdd, Nat.reduceMul, Nat.reduceSub, Nat.reduceBEq, ↓reduceIte, idxB hlt])
          | (refine tr_drawC (id := 6) follows 10000 (by kernel_rfl) ?_; simp only [go_sem, List.getElem?_toArray, str_beq, reduceCtorEq, Nat.reduceEqDiff, Nat.reduceLT, Nat.reduceLeDiff, Nat.reduceAdd, Nat.reduceMul, Nat.reduceSub, Nat.reduceBEq, ↓reduceIte, idxB hlt])
          | refine k_of (by assumption) ?_
          | refine tr_block ?_
          | refine tr_scope ?_
          | (refine tr_skip ?_; try simp only [ex_seq, ex_block])
          | (refine tr_exit ?_; try simp only [ex_seq_exit, ex_block_exit, Nat.reduceEqDiff, if_true, if_false, ex_seq, ex_block, reduceCtorEq, ↓reduceIte])
          | (refine tr_ret ?_; try simp only [ex_seq_ret, ex_block_ret]))
      refine tr_cond rfl (fun ht => ?_) (fun hf => ?_)
      · cases ht
      · repeat (first
            | refine tr_seq_k fun _ _ => ?_
            | (refine tr_region ?_; simp only [go_sem, List.getElem?_toArray, str_beq, reduceCtorEq, Nat.reduceEqDiff, Nat.reduceLT, Nat.reduceLeDiff, Nat.reduceAdd, Nat.reduceMul, Nat.reduceSub, Nat.reduceBEq, ↓reduceIte, idxB hlt, build1B', one_max, aB, ws])
            | (refine tr_drawC (id := 6) follows 10000 (by kernel_rfl) ?_; simp only [go_sem, List.getElem?_toArray, str_beq, reduceCtorEq, Nat.reduceEqDiff, Nat.reduceLT, Nat.reduceLeDiff, Nat.reduceAdd, Nat.reduceMul, Nat.reduceSub, Nat.reduceBEq, ↓reduceIte, idxB hlt, build1B', one_max, aB, ws])
            | refine k_of (by assumption) ?_
            | refine tr_block ?_
            | refine tr_scope ?_
            | (refine tr_skip ?_; try simp only [ex_seq, ex_block])
            | (refine tr_exit ?_; try simp only [ex_seq_exit, ex_block_exit, Nat.reduceEqDiff, if_true, if_false, ex_seq, ex_block, reduceCtorEq, ↓reduceIte])
            | (refine tr_ret ?_; try simp only [ex_seq_ret, ex_block_ret]))
        refine hK (k + 1) _ _ (by omega) ?_ (by omega)
        simp only [hn]
        exact ⟨⟨rfl, rfl, rfl, rfl, rfl, trivial⟩, Keep.refl _, by simp only [lowF, low_col]; rfl, rfl, Nat.le_refl _, Nat.zero_le _⟩
    | false =>
      cases hg : blt b.var l[k].var with
      | true =>
        simp only [hg, Bool.not_false, Bool.true_and, if_true, Bool.false_or] at hn
        have aB := fun hp => appB hp o b (by omega)
        have aB2 := fun hp => appB hp (o ++ [b]) l[k] (by rw [List.length_append, List.length_singleton]; omega)
        repeat (first
            | refine tr_seq_k fun _ _ => ?_
            | (refine tr_region ?_; simp only [go_sem, List.getElem?_toArray, str_beq, reduceCtorEq, Nat.reduceEqDiff, Nat.reduceLT, Nat.reduceLeDiff, Nat.reduceAdd, Nat.reduceMul, Nat.reduceSub, Nat.reduceBEq, ↓reduceIte, idxB hlt, gt_blt, hg])
            | (refine tr_drawC (id := 6) follows 10000 (by kernel_rfl) ?_; simp only [go_sem, List.getElem?_toArray, str_beq, reduceCtorEq, Nat.reduceEqDiff, Nat.reduceLT, Nat.reduceLeDiff, Nat.reduceAdd, Nat.reduceMul, Nat.reduceSub, Nat.reduceBEq, ↓reduceIte, idxB hlt, gt_blt, hg])
            | refine k_of (by assumption) ?_
            | refine tr_block ?_
            | refine tr_scope ?_
            | (refine tr_skip ?_; try simp only [ex_seq, ex_block])
            | (refine tr_exit ?_; try simp only [ex_seq_exit, ex_block_exit, Nat.reduceEqDiff, if_true, if_false, ex_seq, ex_block, reduceCtorEq, ↓reduceIte])
            | (refine tr_ret ?_; try simp only [ex_seq_ret, ex_block_ret]))
        refine tr_cond rfl (fun ht => ?_) (fun hf => ?_)
        · repeat (first
              | refine tr_seq_k fun _ _ => ?_
              | (refine tr_region ?_; simp only [go_sem, List.getElem?_toArray, str_beq, reduceCtorEq, Nat.reduceEqDiff, Nat.reduceLT, Nat.reduceLeDiff, Nat.reduceAdd, Nat.reduceMul, Nat.reduceSub, Nat.reduceBEq, ↓reduceIte, idxB hlt, build1B', one_max, aB, aB2, ws])
              | (refine tr_drawC (id := 6) follows 10000 (by kernel_rfl) ?_; simp only [go_sem, List.getElem?_toArray, str_beq, reduceCtorEq, Nat.reduceEqDiff, Nat.reduceLT, Nat.reduceLeDiff, Nat.reduceAdd, Nat.reduceMul, Nat.reduceSub, Nat.reduceBEq, ↓reduceIte, idxB hlt, build1B', one_max, aB, aB2, ws])
              | refine k_of (by assumption) ?_
              | refine tr_block ?_
              | refine tr_scope ?_
              | (refine tr_skip ?_; try simp only [ex_seq, ex_block])
              | (refine tr_exit ?_; try simp only [ex_seq_exit, ex_block_exit, Nat.reduceEqDiff, if_true, if_false, ex_seq, ex_block, reduceCtorEq, ↓reduceIte])
              | (refine tr_ret ?_; try simp only [ex_seq_ret, ex_block_ret]))
          refine hK (k + 1) _ _ (by omega) ?_ (by omega)
          simp only [hn]
          exact ⟨⟨rfl, rfl, rfl, rfl, rfl, trivial⟩, Keep.refl _, by simp only [lowF, low_col]; rfl, rfl, Nat.le_refl _, Nat.zero_le _⟩
        · cases hf
      | false =>
        simp only [hg, Bool.not_false, Bool.true_and, if_true, if_false, Bool.false_or, Bool.false_eq_true, List.append_nil] at hn
        have aB := fun hp => appB hp o l[k] (by omega)
        repeat (first
            | refine tr_seq_k fun _ _ => ?_
            | (refine tr_region ?_; simp only [go_sem, List.getElem?_toArray, str_beq, reduceCtorEq, Nat.reduceEqDiff, Nat.reduceLT, Nat.reduceLeDiff, Nat.reduceAdd, Nat.reduceMul, Nat.reduceSub, Nat.reduceBEq, ↓reduceIte, idxB hlt, gt_blt, hg])
            | (refine tr_drawC (id := 6) follows 10000 (by kernel_rfl) ?_; simp only [go_sem, List.getElem?_toArray, str_beq, reduceCtorEq, Nat.reduceEqDiff, Nat.reduceLT, Nat.reduceLeDiff, Nat.reduceAdd, Nat.reduceMul, Nat.reduceSub, Nat.reduceBEq, ↓reduceIte, idxB hlt, gt_blt, hg])
            | refine k_of (by assumption) ?_
            | refine tr_block ?_
            | refine tr_scope ?_
            | (refine tr_skip ?_; try simp only [ex_seq, ex_block])
            | (refine tr_exit ?_; try simp only [ex_seq_exit, ex_block_exit, Nat.reduceEqDiff, if_true, if_false, ex_seq, ex_block, reduceCtorEq, ↓reduceIte])
            | (refine tr_ret ?_; try simp only [ex_seq_ret, ex_block_ret]))
        refine tr_cond rfl (fun ht => ?_) (fun hf => ?_)
        · cases ht
        · repeat (first
              | refine tr_seq_k fun _ _ => ?_
              | (refine tr_region ?_; simp only [go_sem, List.getElem?_toArray, str_beq, reduceCtorEq, Nat.reduceEqDiff, Nat.reduceLT, Nat.reduceLeDiff, Nat.reduceAdd, Nat.reduceMul, Nat.reduceSub, Nat.reduceBEq, ↓reduceIte, idxB hlt, build1B', one_max, aB, ws])
              | (refine tr_drawC (id := 6) follows 10000 (by kernel_rfl) ?_; simp only [go_sem, List.getElem?_toArray, str_beq, reduceCtorEq, Nat.reduceEqDiff, Nat.reduceLT, Nat.reduceLeDiff, Nat.reduceAdd, Nat.reduceMul, Nat.reduceSub, Nat.reduceBEq, ↓reduceIte, idxB hlt, build1B', one_max, aB, ws])
              | refine k_of (by assumption) ?_
              | refine tr_block ?_
              | refine tr_scope ?_
              | (refine tr_skip ?_; try simp only [ex_seq, ex_block])
              | (refine tr_exit ?_; try simp only [ex_seq_exit, ex_block_exit, Nat.reduceEqDiff, if_true, if_false, ex_seq, ex_block, reduceCtorEq, ↓reduceIte])
              | (refine tr_ret ?_; try simp only [ex_seq_ret, ex_block_ret]))
          refine hK (k + 1) _ _ (by omega) ?_ (by omega)
          simp only [hn]
          exact ⟨⟨rfl, rfl, rfl, rfl, rfl, trivial⟩, Keep.refl _, by simp only [lowF, low_col]; rfl, rfl, Nat.le_refl _, Nat.zero_le _⟩
  · have hkl : k = l.length := by
      have := of_decide_eq_false hf
      omega
    subst hkl
    rw [List.take_length]
    have he := putK_end b l
    have len := putK_len b l
    generalize putK b l = s at *
    obtain ⟨o, i⟩ := s
    simp only at he len ⊢
    rw [← he] at hQ
    cases i with
    | true =>
      simp only [if_true] at hQ
      repeat (first
          | refine tr_seq_k fun _ _ => ?_
          | (refine tr_region ?_; simp only [go_sem, List.getElem?_toArray, str_beq, reduceCtorEq, Nat.reduceEqDiff, Nat.reduceLT, Nat.reduceLeDiff, Nat.reduceAdd, Nat.reduceMul, Nat.reduceSub, Nat.reduceBEq, ↓reduceIte])
          | (refine tr_drawC (id := 6) follows 10000 (by kernel_rfl) ?_; simp only [go_sem, List.getElem?_toArray, str_beq, reduceCtorEq, Nat.reduceEqDiff, Nat.reduceLT, Nat.reduceLeDiff, Nat.reduceAdd, Nat.reduceMul, Nat.reduceSub, Nat.reduceBEq, ↓reduceIte])
          | refine k_of (by assumption) ?_
          | refine tr_block ?_
          | refine tr_scope ?_
          | (refine tr_skip ?_; try simp only [ex_seq, ex_block])
          | (refine tr_exit ?_; try simp only [ex_seq_exit, ex_block_exit, Nat.reduceEqDiff, if_true, if_false, ex_seq, ex_block, reduceCtorEq, ↓reduceIte])
          | (refine tr_ret ?_; try simp only [ex_seq_ret, ex_block_ret]))
      refine tr_cond rfl (fun ht => ?_) (fun hf => ?_)
      · cases ht
      · repeat (first
            | refine tr_seq_k fun _ _ => ?_
            | (refine tr_region ?_; simp only [go_sem, List.getElem?_toArray, str_beq, reduceCtorEq, Nat.reduceEqDiff, Nat.reduceLT, Nat.reduceLeDiff, Nat.reduceAdd, Nat.reduceMul, Nat.reduceSub, Nat.reduceBEq, ↓reduceIte])
            | (refine tr_drawC (id := 6) follows 10000 (by kernel_rfl) ?_; simp only [go_sem, List.getElem?_toArray, str_beq, reduceCtorEq, Nat.reduceEqDiff, Nat.reduceLT, Nat.reduceLeDiff, Nat.reduceAdd, Nat.reduceMul, Nat.reduceSub, Nat.reduceBEq, ↓reduceIte])
            | refine k_of (by assumption) ?_
            | refine tr_block ?_
            | refine tr_scope ?_
            | (refine tr_skip ?_; try simp only [ex_seq, ex_block])
            | (refine tr_exit ?_; try simp only [ex_seq_exit, ex_block_exit, Nat.reduceEqDiff, if_true, if_false, ex_seq, ex_block, reduceCtorEq, ↓reduceIte])
            | (refine tr_ret ?_; try simp only [ex_seq_ret, ex_block_ret]))
        refine (hQ _ _ [colA bdC 0 o] ?_ (fun m => ret_col bdC 36 3 o _ m)).2 <;> simp only [go_sem, List.getElem?_toArray, str_beq, reduceCtorEq, Nat.reduceEqDiff, Nat.reduceLT, Nat.reduceLeDiff, Nat.reduceAdd, Nat.reduceMul, Nat.reduceSub, Nat.reduceBEq, ↓reduceIte, Try.f55]
    | false =>
      simp only [if_false, Bool.false_eq_true] at hQ
      have aB := fun hp => appB hp o b (by omega)
      repeat (first
          | refine tr_seq_k fun _ _ => ?_
          | (refine tr_region ?_; simp only [go_sem, List.getElem?_toArray, str_beq, reduceCtorEq, Nat.reduceEqDiff, Nat.reduceLT, Nat.reduceLeDiff, Nat.reduceAdd, Nat.reduceMul, Nat.reduceSub, Nat.reduceBEq, ↓reduceIte])
          | (refine tr_drawC (id := 6) follows 10000 (by kernel_rfl) ?_; simp only [go_sem, List.getElem?_toArray, str_beq, reduceCtorEq, Nat.reduceEqDiff, Nat.reduceLT, Nat.reduceLeDiff, Nat.reduceAdd, Nat.reduceMul, Nat.reduceSub, Nat.reduceBEq, ↓reduceIte])
          | refine k_of (by assumption) ?_
          | refine tr_block ?_
          | refine tr_scope ?_
          | (refine tr_skip ?_; try simp only [ex_seq, ex_block])
          | (refine tr_exit ?_; try simp only [ex_seq_exit, ex_block_exit, Nat.reduceEqDiff, if_true, if_false, ex_seq, ex_block, reduceCtorEq, ↓reduceIte])
          | (refine tr_ret ?_; try simp only [ex_seq_ret, ex_block_ret]))
      refine tr_cond rfl (fun ht => ?_) (fun hf => ?_)
      · repeat (first
            | refine tr_seq_k fun _ _ => ?_
            | (refine tr_region ?_; simp only [go_sem, List.getElem?_toArray, str_beq, reduceCtorEq, Nat.reduceEqDiff, Nat.reduceLT, Nat.reduceLeDiff, Nat.reduceAdd, Nat.reduceMul, Nat.reduceSub, Nat.reduceBEq, ↓reduceIte, build1B', one_max, aB])
            | (refine tr_drawC (id := 6) follows 10000 (by kernel_rfl) ?_; simp only [go_sem, List.getElem?_toArray, str_beq, reduceCtorEq, Nat.reduceEqDiff, Nat.reduceLT, Nat.reduceLeDiff, Nat.reduceAdd, Nat.reduceMul, Nat.reduceSub, Nat.reduceBEq, ↓reduceIte, build1B', one_max, aB])
            | refine k_of (by assumption) ?_
            | refine tr_block ?_
            | refine tr_scope ?_
            | (refine tr_skip ?_; try simp only [ex_seq, ex_block])
            | (refine tr_exit ?_; try simp only [ex_seq_exit, ex_block_exit, Nat.reduceEqDiff, if_true, if_false, ex_seq, ex_block, reduceCtorEq, ↓reduceIte])
            | (refine tr_ret ?_; try simp only [ex_seq_ret, ex_block_ret]))
        refine (hQ _ _ [colA bdC 0 (o ++ [b])] ?_ (fun m => ret_col bdC 36 3 (o ++ [b]) _ m)).2 <;> simp only [go_sem, List.getElem?_toArray, str_beq, reduceCtorEq, Nat.reduceEqDiff, Nat.reduceLT, Nat.reduceLeDiff, Nat.reduceAdd, Nat.reduceMul, Nat.reduceSub, Nat.reduceBEq, ↓reduceIte, Try.f55]
      · cases hf
end Go.Proofs.Ytkkkpbnehpfkkaa
