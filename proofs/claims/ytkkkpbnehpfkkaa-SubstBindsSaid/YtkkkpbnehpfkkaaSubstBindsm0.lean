/-
  Part 0 of the proof's own texts: general lemmas and contracts of functions, laid one behind the other.
-/
import Derived.Test.YtkkkpbnehpfkkaaUe
import Derived.Test.YtkkkpbnehpfkkaaUb
import Derived.Test.YtkkkpbnehpfkkaaUc
/-
  Chapter 4: contracts on abstract values: with.
-/
set_option linter.unusedSimpArgs false
namespace Go.Proofs.Ytkkkpbnehpfkkaa
open Go.Vs Go.Vs.Ab

theorem pwith_place (l : List Bd) (b : Bd) : l.take (place l b.var) ++ [b] ++ l.drop (place l b.var) = pwith l b := by
  have h := List.takeWhile_append_dropWhile (p := fun x : Bd => !blt b.var x.var) (l := l)
  have h1 : l.take (place l b.var) = l.takeWhile (fun x => !blt b.var x.var) := (congrArg (List.take (place l b.var)) h.symm).trans (List.take_left' rfl)
  have h2 : l.drop (place l b.var) = l.dropWhile (fun x => !blt b.var x.var) := (congrArg (List.drop (place l b.var)) h.symm).trans (List.drop_left' rfl)
  rw [h1, h2]
  simp [pwith]

set_option maxRecDepth 10000
set_option maxHeartbeats 2000000
theorem with_does (l : List Bd) (b : Bd) (ex : Bool) (hl : l.length ≤ 10000) (hr : prises l = true) : Does Try.prog 45 [slB ex l, bdA b] (fun m => (slB (pwith l b).isEmpty (pwith l b), m)) := by
  refine Does.shut (e := 36) (size := 3) ?_
  have hp := place_le l b.var
  have pg := fun hw => place_gives l b ex hw (by omega) hr
  have sh := sl_head (P := Try.prog) bdC 3 (fun _ => rfl) Try.underlying22 sz36 (ex := ex) hp
  have st := sl_tail (P := Try.prog) bdC 3 (fun _ => rfl) Try.underlying22 sz36 (ex := ex) hp
  have lh : (l.take (place l b.var)).length ≤ 10000 := by rw [List.length_take]; omega
  have ld : (l.drop (place l b.var)).length ≤ 10000 := by rw [List.length_drop]; omega
  have a1 : ∀ hp, aAppend Try.prog ⟨hp, []⟩ 22 (slB true (l.take (place l b.var))) (.c (.sl true 1 [.v (.string b.var), .v (.bool b.t.v), .v (.string b.t.name)])) = some (colA bdC 0 (l.take (place l b.var) ++ [b]), ⟨hp, colH 36 3 (l.take (place l b.var) ++ [b])⟩) := fun hp =>
    app_exact (P := Try.prog) bdC (size := 3) (bytes := 40) (fun _ => rfl) Try.underlying22 info_b (hp := hp) (x := b) (ex := true) (Nat.le_trans (show _ ≤ 10001 by omega) (by decide)) (by omega)
  have a2 : ∀ hp, aAppend Try.prog ⟨hp, colH 36 3 (l.take (place l b.var) ++ [b])⟩ 22 (colA bdC 0 (l.take (place l b.var) ++ [b])) (slB ex (l.drop (place l b.var))) = some (colA bdC 0 (l.take (place l b.var) ++ [b] ++ l.drop (place l b.var)), ⟨hp, colH 36 3 (l.take (place l b.var) ++ [b] ++ l.drop (place l b.var))⟩) := fun hp =>
    app_more (P := Try.prog) bdC (size := 3) (bytes := 40) (fun _ => rfl) Try.underlying22 info_b (hp := hp) (ex := ex) (by simp) (by rw [List.length_append, List.length_singleton]; exact Nat.le_trans (show _ ≤ 20001 by omega) (by decide)) (by rw [List.length_append, List.length_singleton]; omega)
  rw [pwith_place] at a2
  refine does_of' Try.func45 rfl (by kernel_rfl) rfl Try.ntmps45 rfl rfl fun Q hQ => ?_
  repeat (first
      | refine tr_seq_k fun _ _ => ?_
      | (refine tr_region ?_; simp only [go_sem, List.getElem?_toArray, str_beq, reduceCtorEq, Nat.reduceEqDiff, Nat.reduceLT, Nat.reduceLeDiff, Nat.reduceAdd, Nat.reduceMul, Nat.reduceSub, Nat.reduceBEq, ↓reduceIte, sh, st, build1B', one_max, a1, a2])
      | (refine tr_draw (id := 2) follows 10000 [5, 6, 10] [0, 1, 2, 3, 4, 7, 8, 9, 5, 6, 10, 11] (by kernel_rfl) ?_; simp only [go_sem, List.getElem?_toArray, str_beq, reduceCtorEq, Nat.reduceEqDiff, Nat.reduceLT, Nat.reduceLeDiff, Nat.reduceAdd, Nat.reduceMul, Nat.reduceSub, Nat.reduceBEq, ↓reduceIte, sh, st, build1B', one_max, a1, a2])
      | (refine call_gives (pg _) ?_; simp only [go_sem, List.getElem?_toArray, str_beq, reduceCtorEq, Nat.reduceEqDiff, Nat.reduceLT, Nat.reduceLeDiff, Nat.reduceAdd, Nat.reduceMul, Nat.reduceSub, Nat.reduceBEq, ↓reduceIte, sh, st, build1B', one_max, a1, a2])
      | refine k_of (by assumption) ?_
      | refine tr_block ?_
      | refine tr_scope ?_
      | (refine tr_skip ?_; try simp only [ex_seq, ex_block])
      | (refine tr_exit ?_; try simp only [ex_seq_exit, ex_block_exit, Nat.reduceEqDiff, if_true, if_false, ex_seq, ex_block, reduceCtorEq, ↓reduceIte])
      | (refine tr_ret ?_; try simp only [ex_seq_ret, ex_block_ret]))
  refine (hQ _ _ [colA bdC 0 (pwith l b)] ?_ (fun m => ret_col bdC 36 3 (pwith l b) _ m)).2 <;> simp only [go_sem, List.getElem?_toArray, str_beq, reduceCtorEq, Nat.reduceEqDiff, Nat.reduceLT, Nat.reduceLeDiff, Nat.reduceAdd, Nat.reduceMul, Nat.reduceSub, Nat.reduceBEq, ↓reduceIte, Try.f45]
end Go.Proofs.Ytkkkpbnehpfkkaa

/-
  Chapter 4: contracts on abstract values: under.
-/
set_option linter.unusedSimpArgs false
namespace Go.Proofs.Ytkkkpbnehpfkkaa
open Go.Vs Go.Vs.Ab

set_option maxRecDepth 10000
set_option maxHeartbeats 2000000
theorem under_does (l n : List Bd) (ex en : Bool) (hl : l.length ≤ 10000) (hn : n.length ≤ 10000) : Does Try.prog 46 [slB ex l, slB en n] (fun m => (slB (punder l n).isEmpty (punder l n), m)) := by
  refine Does.shut (e := 36) (size := 3) ?_
  refine does_of' Try.func46 rfl (by kernel_rfl) rfl Try.ntmps46 rfl rfl fun Q hQ => ?_
  repeat (first
      | refine tr_seq_k fun _ _ => ?_
      | (refine tr_region ?_; simp only [go_sem, List.getElem?_toArray, str_beq, reduceCtorEq, Nat.reduceEqDiff, Nat.reduceLT, Nat.reduceLeDiff, Nat.reduceAdd, Nat.reduceMul, Nat.reduceSub, Nat.reduceBEq, ↓reduceIte])
      | (refine tr_draw (id := 5) follows 10000 [6, 8, 9] [0, 1, 2, 3, 4, 5, 6, 7, 8, 9, 10] (by kernel_rfl) ?_; simp only [go_sem, List.getElem?_toArray, str_beq, reduceCtorEq, Nat.reduceEqDiff, Nat.reduceLT, Nat.reduceLeDiff, Nat.reduceAdd, Nat.reduceMul, Nat.reduceSub, Nat.reduceBEq, ↓reduceIte])
      | refine k_of (by assumption) ?_
      | refine tr_block ?_
      | refine tr_scope ?_
      | (refine tr_skip ?_; try simp only [ex_seq, ex_block])
      | (refine tr_exit ?_; try simp only [ex_seq_exit, ex_block_exit, Nat.reduceEqDiff, if_true, if_false, ex_seq, ex_block, reduceCtorEq, ↓reduceIte])
      | (refine tr_ret ?_; try simp only [ex_seq_ret, ex_block_ret]))
  refine tr_loop_k (σ := Nat) (fun k => [(1, slB en n), (5, colA bdC 0 (punder (l.take k) n)), (8, slB ex l), (9, iA l.length), (10, iA k)]) (fun k => ⟨[], colH 36 3 (punder (l.take k) n)⟩)
    (fun k => k ≤ l.length) (fun k => l.length - k) 0 (by omega) ⟨rfl, rfl, rfl, rfl, rfl, trivial⟩ rfl ?_
  rintro k hk K hK
  repeat (first
      | refine tr_seq_k fun _ _ => ?_
      | (refine tr_region ?_; simp only [go_sem, List.getElem?_toArray, str_beq, reduceCtorEq, Nat.reduceEqDiff, Nat.reduceLT, Nat.reduceLeDiff, Nat.reduceAdd, Nat.reduceMul, Nat.reduceSub, Nat.reduceBEq, ↓reduceIte])
      | (refine tr_draw (id := 5) follows 10000 [6, 8, 9] [0, 1, 2, 3, 4, 5, 6, 7, 8, 9, 10] (by kernel_rfl) ?_; simp only [go_sem, List.getElem?_toArray, str_beq, reduceCtorEq, Nat.reduceEqDiff, Nat.reduceLT, Nat.reduceLeDiff, Nat.reduceAdd, Nat.reduceMul, Nat.reduceSub, Nat.reduceBEq, ↓reduceIte])
      | refine k_of (by assumption) ?_
      | refine tr_block ?_
      | refine tr_scope ?_
      | (refine tr_skip ?_; try simp only [ex_seq, ex_block])
      | (refine tr_exit ?_; try simp only [ex_seq_exit, ex_block_exit, Nat.reduceEqDiff, if_true, if_false, ex_seq, ex_block, reduceCtorEq, ↓reduceIte])
      | (refine tr_ret ?_; try simp only [ex_seq_ret, ex_block_ret]))
  refine tr_cond rfl (fun ht => ?_) (fun hf => ?_)
  · have hlt : k < l.length := by simpa using ht
    have ws := wrap_succ (show k ≤ 1000000000 by omega)
    have hu := punder_next (m := n) hlt
    have len : (punder (l.take k) n).length ≤ 10000 := by
      unfold punder
      rw [List.length_map, List.length_take]
      omega
    generalize punder (l.take k) n = o at *
    have cU := term_does n l[k].t en (by omega)
    have aB := fun hp => appB hp o ⟨l[k].var, pterm n l[k].t⟩ (by omega)
    repeat (first
        | refine tr_seq_k fun _ _ => ?_
        | (refine tr_region ?_; simp only [go_sem, List.getElem?_toArray, str_beq, reduceCtorEq, Nat.reduceEqDiff, Nat.reduceLT, Nat.reduceLeDiff, Nat.reduceAdd, Nat.reduceMul, Nat.reduceSub, Nat.reduceBEq, ↓reduceIte, idxB hlt, build1B', one_max, aB, ws])
        | (refine tr_draw (id := 5) follows 10000 [6, 8, 9] [0, 1, 2, 3, 4, 5, 6, 7, 8, 9, 10] (by kernel_rfl) ?_; simp only [go_sem, List.getElem?_toArray, str_beq, reduceCtorEq, Nat.reduceEqDiff, Nat.reduceLT, Nat.reduceLeDiff, Nat.reduceAdd, Nat.reduceMul, Nat.reduceSub, Nat.reduceBEq, ↓reduceIte, idxB hlt, build1B', one_max, aB, ws])
        | (refine call_of (cU) ?_ ?_
           · first | rfl | simp only [go_sem, List.getElem?_toArray, str_beq, reduceCtorEq, Nat.reduceEqDiff, Nat.reduceLT, Nat.reduceLeDiff, Nat.reduceAdd, Nat.reduceMul, Nat.reduceSub, Nat.reduceBEq, ↓reduceIte, idxB hlt, build1B', one_max, aB, ws, shut_col]
           simp only [go_sem, List.getElem?_toArray, str_beq, reduceCtorEq, Nat.reduceEqDiff, Nat.reduceLT, Nat.reduceLeDiff, Nat.reduceAdd, Nat.reduceMul, Nat.reduceSub, Nat.reduceBEq, ↓reduceIte, idxB hlt, build1B', one_max, aB, ws])
        | refine k_of (by assumption) ?_
        | refine tr_block ?_
        | refine tr_scope ?_
        | (refine tr_skip ?_; try simp only [ex_seq, ex_block])
        | (refine tr_exit ?_; try simp only [ex_seq_exit, ex_block_exit, Nat.reduceEqDiff, if_true, if_false, ex_seq, ex_block, reduceCtorEq, ↓reduceIte])
        | (refine tr_ret ?_; try simp only [ex_seq_ret, ex_block_ret]))
    refine hK (k + 1) _ _ (by omega) ?_ (by omega)
    simp only [hu]
    exact ⟨⟨rfl, rfl, rfl, rfl, rfl, trivial⟩, Keep.of (eh := _) (ew := []) rfl (by simp), by simp only [lowF, low_col]; rfl, rfl, Nat.le_refl _, Nat.zero_le _⟩
  · have hkl : k = l.length := by
      have := of_decide_eq_false hf
      omega
    subst hkl
    rw [List.take_length]
    repeat (first
        | refine tr_seq_k fun _ _ => ?_
        | (refine tr_region ?_; simp only [go_sem, List.getElem?_toArray, str_beq, reduceCtorEq, Nat.reduceEqDiff, Nat.reduceLT, Nat.reduceLeDiff, Nat.reduceAdd, Nat.reduceMul, Nat.reduceSub, Nat.reduceBEq, ↓reduceIte])
        | (refine tr_draw (id := 5) follows 10000 [6, 8, 9] [0, 1, 2, 3, 4, 5, 6, 7, 8, 9, 10] (by kernel_rfl) ?_; simp only [go_sem, List.getElem?_toArray, str_beq, reduceCtorEq, Nat.reduceEqDiff, Nat.reduceLT, Nat.reduceLeDiff, Nat.reduceAdd, Nat.reduceMul, Nat.reduceSub, Nat.reduceBEq, ↓reduceIte])
        | refine k_of (by assumption) ?_
        | refine tr_block ?_
        | refine tr_scope ?_
        | (refine tr_skip ?_; try simp only [ex_seq, ex_block])
        | (refine tr_exit ?_; try simp only [ex_seq_exit, ex_block_exit, Nat.reduceEqDiff, if_true, if_false, ex_seq, ex_block, reduceCtorEq, ↓reduceIte])
        | (refine tr_ret ?_; try simp only [ex_seq_ret, ex_block_ret]))
    refine (hQ _ _ [colA bdC 0 (punder l n)] ?_ (fun m => ret_col bdC 36 3 (punder l n) _ m)).2 <;> simp only [go_sem, List.getElem?_toArray, str_beq, reduceCtorEq, Nat.reduceEqDiff, Nat.reduceLT, Nat.reduceLeDiff, Nat.reduceAdd, Nat.reduceMul, Nat.reduceSub, Nat.reduceBEq, ↓reduceIte, Try.f46]
end Go.Proofs.Ytkkkpbnehpfkkaa

/-
  Chapter 4: contracts on abstract values: Bind.
-/
set_option linter.unusedSimpArgs false
namespace Go.Proofs.Ytkkkpbnehpfkkaa
open Go.Vs Go.Vs.Ab

theorem punder_len (l m : List Bd) : (punder l m).length = l.length := by simp [punder]
theorem punder_var (l m : List Bd) (i : Nat) (h : i < (punder l m).length) : (punder l m)[i].var = (l[i]'(by rw [punder_len] at h; exact h)).var := by simp [punder]
theorem prises_punder {l m : List Bd} (h : prises l = true) : prises (punder l m) = true := by
  rw [prises_iff] at h ⊢
  intro i hi
  rw [punder_var, punder_var]
  exact h i (by rw [punder_len] at hi; exact hi)

set_option maxRecDepth 10000
set_option maxHeartbeats 2000000
theorem bind_does (l : List Bd) (v : ByteArray) (t : Tm) (ex : Bool) (hl : l.length ≤ 5000) : Does Try.prog 17 [slB ex l, sA v, tmA t] (fun m => (.tup [slB (pbL l v t).isEmpty (pbL l v t), iA (pbE l v t)], m)) := by
  have cC := check_does l ex (by omega)
  have cG := get_does l v ex (by omega)
  have cT := term_does l t ex (by omega)
  refine does_of' Try.func17 rfl (by kernel_rfl) rfl Try.ntmps17 rfl rfl fun Q hQ => ?_
  cases hc : pcheck l with
  | false =>
    have hE : pbE l v t = 15 := by simp [pbE, hc]
    have hL := pbL_err hE (by decide)
    repeat (first
        | refine tr_seq_k fun _ _ => ?_
        | (refine tr_region ?_; simp only [go_sem, List.getElem?_toArray, str_beq, reduceCtorEq, Nat.reduceEqDiff, Nat.reduceLT, Nat.reduceLeDiff, Nat.reduceAdd, Nat.reduceMul, Nat.reduceSub, Nat.reduceBEq, ↓reduceIte, hc])
        | (refine tr_draw (id := 11) follows 10000 [2, 3, 5] [0, 1, 4, 2, 3, 5, 6, 7] (by kernel_rfl) ?_; simp only [go_sem, List.getElem?_toArray, str_beq, reduceCtorEq, Nat.reduceEqDiff, Nat.reduceLT, Nat.reduceLeDiff, Nat.reduceAdd, Nat.reduceMul, Nat.reduceSub, Nat.reduceBEq, ↓reduceIte, hc])
        | (refine call_of (cC) ?_ ?_
           · first | rfl | simp only [go_sem, List.getElem?_toArray, str_beq, reduceCtorEq, Nat.reduceEqDiff, Nat.reduceLT, Nat.reduceLeDiff, Nat.reduceAdd, Nat.reduceMul, Nat.reduceSub, Nat.reduceBEq, ↓reduceIte, hc, shut_col]
           simp only [go_sem, List.getElem?_toArray, str_beq, reduceCtorEq, Nat.reduceEqDiff, Nat.reduceLT, Nat.reduceLeDiff, Nat.reduceAdd, Nat.reduceMul, Nat.reduceSub, Nat.reduceBEq, ↓reduceIte, hc])
        | refine k_of (by assumption) ?_
        | refine tr_block ?_
        | refine tr_scope ?_
        | (refine tr_skip ?_; try simp only [ex_seq, ex_block])
        | (refine tr_exit ?_; try simp only [ex_seq_exit, ex_block_exit, Nat.reduceEqDiff, if_true, if_false, ex_seq, ex_block, reduceCtorEq, ↓reduceIte])
        | (refine tr_ret ?_; try simp only [ex_seq_ret, ex_block_ret]))
    refine tr_cond rfl (fun ht => ?_) (fun hf => ?_)
    · repeat (first
          | refine tr_seq_k fun _ _ => ?_
          | (refine tr_region ?_; simp only [go_sem, List.getElem?_toArray, str_beq, reduceCtorEq, Nat.reduceEqDiff, Nat.reduceLT, Nat.reduceLeDiff, Nat.reduceAdd, Nat.reduceMul, Nat.reduceSub, Nat.reduceBEq, ↓reduceIte])
          | (refine tr_draw (id := 11) follows 10000 [2, 3, 5] [0, 1, 4, 2, 3, 5, 6, 7] (by kernel_rfl) ?_; simp only [go_sem, List.getElem?_toArray, str_beq, reduceCtorEq, Nat.reduceEqDiff, Nat.reduceLT, Nat.reduceLeDiff, Nat.reduceAdd, Nat.reduceMul, Nat.reduceSub, Nat.reduceBEq, ↓reduceIte])
          | refine k_of (by assumption) ?_
          | refine tr_block ?_
          | refine tr_scope ?_
          | (refine tr_skip ?_; try simp only [ex_seq, ex_block])
          | (refine tr_exit ?_; try simp only [ex_seq_exit, ex_block_exit, Nat.reduceEqDiff, if_true, if_false, ex_seq, ex_block, reduceCtorEq, ↓reduceIte])
          | (refine tr_ret ?_; try simp only [ex_seq_ret, ex_block_ret]))
      refine (hQ _ _ [.c (.sl true 0 []), iA 15] ?_ (fun m => by rw [hL, hE]; rfl)).2 <;> simp only [go_sem, List.getElem?_toArray, str_beq, reduceCtorEq, Nat.reduceEqDiff, Nat.reduceLT, Nat.reduceLeDiff, Nat.reduceAdd, Nat.reduceMul, Nat.reduceSub, Nat.reduceBEq, ↓reduceIte, Try.f17]
    · cases hf
  | true =>
    repeat (first
        | refine tr_seq_k fun _ _ => ?_
        | (refine tr_region ?_; simp only [go_sem, List.getElem?_toArray, str_beq, reduceCtorEq, Nat.reduceEqDiff, Nat.reduceLT, Nat.reduceLeDiff, Nat.reduceAdd, Nat.reduceMul, Nat.reduceSub, Nat.reduceBEq, ↓reduceIte, hc])
        | (refine tr_draw (id := 11) follows 10000 [2, 3, 5] [0, 1, 4, 2, 3, 5, 6, 7] (by kernel_rfl) ?_; simp only [go_sem, List.getElem?_toArray, str_beq, reduceCtorEq, Nat.reduceEqDiff, Nat.reduceLT, Nat.reduceLeDiff, Nat.reduceAdd, Nat.reduceMul, Nat.reduceSub, Nat.reduceBEq, ↓reduceIte, hc])
        | (refine call_of (cC) ?_ ?_
           · first | rfl | simp only [go_sem, List.getElem?_toArray, str_beq, reduceCtorEq, Nat.reduceEqDiff, Nat.reduceLT, Nat.reduceLeDiff, Nat.reduceAdd, Nat.reduceMul, Nat.reduceSub, Nat.reduceBEq, ↓reduceIte, hc, shut_col]
           simp only [go_sem, List.getElem?_toArray, str_beq, reduceCtorEq, Nat.reduceEqDiff, Nat.reduceLT, Nat.reduceLeDiff, Nat.reduceAdd, Nat.reduceMul, Nat.reduceSub, Nat.reduceBEq, ↓reduceIte, hc])
        | refine k_of (by assumption) ?_
        | refine tr_block ?_
        | refine tr_scope ?_
        | (refine tr_skip ?_; try simp only [ex_seq, ex_block])
        | (refine tr_exit ?_; try simp only [ex_seq_exit, ex_block_exit, Nat.reduceEqDiff, if_true, if_false, ex_seq, ex_block, reduceCtorEq, ↓reduceIte])
        | (refine tr_ret ?_; try simp only [ex_seq_ret, ex_block_ret]))
    refine tr_cond rfl (fun ht => ?_) (fun hf => ?_)
    · cases ht
    · cases hv : decide (v = ⟨#[]⟩) with
      | true =>
        have hE : pbE l v t = 2 := by simp [pbE, hc, of_decide_eq_true hv]
        have hL := pbL_err hE (by decide)
        repeat (first
            | refine tr_seq_k fun _ _ => ?_
            | (refine tr_region ?_; simp only [go_sem, List.getElem?_toArray, str_beq, reduceCtorEq, Nat.reduceEqDiff, Nat.reduceLT, Nat.reduceLeDiff, Nat.reduceAdd, Nat.reduceMul, Nat.reduceSub, Nat.reduceBEq, ↓reduceIte, hv])
            | (refine tr_draw (id := 11) follows 10000 [2, 3, 5] [0, 1, 4, 2, 3, 5, 6, 7] (by kernel_rfl) ?_; simp only [go_sem, List.getElem?_toArray, str_beq, reduceCtorEq, Nat.reduceEqDiff, Nat.reduceLT, Nat.reduceLeDiff, Nat.reduceAdd, Nat.reduceMul, Nat.reduceSub, Nat.reduceBEq, ↓reduceIte, hv])
            | (refine call_of (cG) ?_ ?_
               · first | rfl | simp only [go_sem, List.getElem?_toArray, str_beq, reduceCtorEq, Nat.reduceEqDiff, Nat.reduceLT, Nat.reduceLeDiff, Nat.reduceAdd, Nat.reduceMul, Nat.reduceSub, Nat.reduceBEq, ↓reduceIte, hv, shut_col]
               simp only [go_sem, List.getElem?_toArray, str_beq, reduceCtorEq, Nat.reduceEqDiff, Nat.reduceLT, Nat.reduceLeDiff, Nat.reduceAdd, Nat.reduceMul, Nat.reduceSub, Nat.reduceBEq, ↓reduceIte, hv])
            | (refine call_of (cT) ?_ ?_
               · first | rfl | simp only [go_sem, List.getElem?_toArray, str_beq, reduceCtorEq, Nat.reduceEqDiff, Nat.reduceLT, Nat.reduceLeDiff, Nat.reduceAdd, Nat.reduceMul, Nat.reduceSub, Nat.reduceBEq, ↓reduceIte, hv, shut_col]
               simp only [go_sem, List.getElem?_toArray, str_beq, reduceCtorEq, Nat.reduceEqDiff, Nat.reduceLT, Nat.reduceLeDiff, Nat.reduceAdd, Nat.reduceMul, Nat.reduceSub, Nat.reduceBEq, ↓reduceIte, hv])
            | refine k_of (by assumption) ?_
            | refine tr_block ?_
            | refine tr_scope ?_
            | (refine tr_skip ?_; try simp only [ex_seq, ex_block])
            | (refine tr_exit ?_; try simp only [ex_seq_exit, ex_block_exit, Nat.reduceEqDiff, if_true, if_false, ex_seq, ex_block, reduceCtorEq, ↓reduceIte])
            | (refine tr_ret ?_; try simp only [ex_seq_ret, ex_block_ret]))
        refine tr_cond rfl (fun ht => ?_) (fun hf => ?_)
        · repeat (first
              | refine tr_seq_k fun _ _ => ?_
              | (refine tr_region ?_; simp only [go_sem, List.getElem?_toArray, str_beq, reduceCtorEq, Nat.reduceEqDiff, Nat.reduceLT, Nat.reduceLeDiff, Nat.reduceAdd, Nat.reduceMul, Nat.reduceSub, Nat.reduceBEq, ↓reduceIte])
              | (refine tr_draw (id := 11) follows 10000 [2, 3, 5] [0, 1, 4, 2, 3, 5, 6, 7] (by kernel_rfl) ?_; simp only [go_sem, List.getElem?_toArray, str_beq, reduceCtorEq, Nat.reduceEqDiff, Nat.reduceLT, Nat.reduceLeDiff, Nat.reduceAdd, Nat.reduceMul, Nat.reduceSub, Nat.reduceBEq, ↓reduceIte])
              | refine k_of (by assumption) ?_
              | refine tr_block ?_
              | refine tr_scope ?_
              | (refine tr_skip ?_; try simp only [ex_seq, ex_block])
              | (refine tr_exit ?_; try simp only [ex_seq_exit, ex_block_exit, Nat.reduceEqDiff, if_true, if_false, ex_seq, ex_block, reduceCtorEq, ↓reduceIte])
              | (refine tr_ret ?_; try simp only [ex_seq_ret, ex_block_ret]))
          refine (hQ _ _ [.c (.sl true 0 []), iA 2] ?_ (fun m => by rw [hL, hE]; rfl)).2 <;> simp only [go_sem, List.getElem?_toArray, str_beq, reduceCtorEq, Nat.reduceEqDiff, Nat.reduceLT, Nat.reduceLeDiff, Nat.reduceAdd, Nat.reduceMul, Nat.reduceSub, Nat.reduceBEq, ↓reduceIte, Try.f17]
        · cases hf
      | false =>
        cases hn : decide (t.name = ⟨#[]⟩) with
        | true =>
          have hE : pbE l v t = 2 := by simp [pbE, hc, of_decide_eq_true hn]
          have hL := pbL_err hE (by decide)
          repeat (first
              | refine tr_seq_k fun _ _ => ?_
              | (refine tr_region ?_; simp only [go_sem, List.getElem?_toArray, str_beq, reduceCtorEq, Nat.reduceEqDiff, Nat.reduceLT, Nat.reduceLeDiff, Nat.reduceAdd, Nat.reduceMul, Nat.reduceSub, Nat.reduceBEq, ↓reduceIte, hv, hn])
              | (refine tr_draw (id := 11) follows 10000 [2, 3, 5] [0, 1, 4, 2, 3, 5, 6, 7] (by kernel_rfl) ?_; simp only [go_sem, List.getElem?_toArray, str_beq, reduceCtorEq, Nat.reduceEqDiff, Nat.reduceLT, Nat.reduceLeDiff, Nat.reduceAdd, Nat.reduceMul, Nat.reduceSub, Nat.reduceBEq, ↓reduceIte, hv, hn])
              | (refine call_of (cG) ?_ ?_
                 · first | rfl | simp only [go_sem, List.getElem?_toArray, str_beq, reduceCtorEq, Nat.reduceEqDiff, Nat.reduceLT, Nat.reduceLeDiff, Nat.reduceAdd, Nat.reduceMul, Nat.reduceSub, Nat.reduceBEq, ↓reduceIte, hv, hn, shut_col]
                 simp only [go_sem, List.getElem?_toArray, str_beq, reduceCtorEq, Nat.reduceEqDiff, Nat.reduceLT, Nat.reduceLeDiff, Nat.reduceAdd, Nat.reduceMul, Nat.reduceSub, Nat.reduceBEq, ↓reduceIte, hv, hn])
              | (refine call_of (cT) ?_ ?_
                 · first | rfl | simp only [go_sem, List.getElem?_toArray, str_beq, reduceCtorEq, Nat.reduceEqDiff, Nat.reduceLT, Nat.reduceLeDiff, Nat.reduceAdd, Nat.reduceMul, Nat.reduceSub, Nat.reduceBEq, ↓reduceIte, hv, hn, shut_col]
                 simp only [go_sem, List.getElem?_toArray, str_beq, reduceCtorEq, Nat.reduceEqDiff, Nat.reduceLT, Nat.reduceLeDiff, Nat.reduceAdd, Nat.reduceMul, Nat.reduceSub, Nat.reduceBEq, ↓reduceIte, hv, hn])
              | refine k_of (by assumption) ?_
              | refine tr_block ?_
              | refine tr_scope ?_
              | (refine tr_skip ?_; try simp only [ex_seq, ex_block])
              | (refine tr_exit ?_; try simp only [ex_seq_exit, ex_block_exit, Nat.reduceEqDiff, if_true, if_false, ex_seq, ex_block, reduceCtorEq, ↓reduceIte])
              | (refine tr_ret ?_; try simp only [ex_seq_ret, ex_block_ret]))
          refine tr_cond rfl (fun ht => ?_) (fun hf => ?_)
          · repeat (first
                | refine tr_seq_k fun _ _ => ?_
                | (refine tr_region ?_; simp only [go_sem, List.getElem?_toArray, str_beq, reduceCtorEq, Nat.reduceEqDiff, Nat.reduceLT, Nat.reduceLeDiff, Nat.reduceAdd, Nat.reduceMul, Nat.reduceSub, Nat.reduceBEq, ↓reduceIte])
                | (refine tr_draw (id := 11) follows 10000 [2, 3, 5] [0, 1, 4, 2, 3, 5, 6, 7] (by kernel_rfl) ?_; simp only [go_sem, List.getElem?_toArray, str_beq, reduceCtorEq, Nat.reduceEqDiff, Nat.reduceLT, Nat.reduceLeDiff, Nat.reduceAdd, Nat.reduceMul, Nat.reduceSub, Nat.reduceBEq, ↓reduceIte])
                | refine k_of (by assumption) ?_
                | refine tr_block ?_
                | refine tr_scope ?_
                | (refine tr_skip ?_; try simp only [ex_seq, ex_block])
                | (refine tr_exit ?_; try simp only [ex_seq_exit, ex_block_exit, Nat.reduceEqDiff, if_true, if_false, ex_seq, ex_block, reduceCtorEq, ↓reduceIte])
                | (refine tr_ret ?_; try simp only [ex_seq_ret, ex_block_ret]))
            refine (hQ _ _ [.c (.sl true 0 []), iA 2] ?_ (fun m => by rw [hL, hE]; rfl)).2 <;> simp only [go_sem, List.getElem?_toArray, str_beq, reduceCtorEq, Nat.reduceEqDiff, Nat.reduceLT, Nat.reduceLeDiff, Nat.reduceAdd, Nat.reduceMul, Nat.reduceSub, Nat.reduceBEq, ↓reduceIte, Try.f17]
          · cases hf
        | false =>
          have hv' := of_decide_eq_false hv
          have hn' := of_decide_eq_false hn
          cases hg : (pget l v).isSome with
          | true =>
            have hE : pbE l v t = 5 := by simp [pbE, hc, hv', hn', hg]
            have hL := pbL_err hE (by decide)
            repeat (first
                | refine tr_seq_k fun _ _ => ?_
                | (refine tr_region ?_; simp only [go_sem, List.getElem?_toArray, str_beq, reduceCtorEq, Nat.reduceEqDiff, Nat.reduceLT, Nat.reduceLeDiff, Nat.reduceAdd, Nat.reduceMul, Nat.reduceSub, Nat.reduceBEq, ↓reduceIte, hv, hn, hg])
                | (refine tr_draw (id := 11) follows 10000 [2, 3, 5] [0, 1, 4, 2, 3, 5, 6, 7] (by kernel_rfl) ?_; simp only [go_sem, List.getElem?_toArray, str_beq, reduceCtorEq, Nat.reduceEqDiff, Nat.reduceLT, Nat.reduceLeDiff, Nat.reduceAdd, Nat.reduceMul, Nat.reduceSub, Nat.reduceBEq, ↓reduceIte, hv, hn, hg])
                | (refine call_of (cG) ?_ ?_
                   · first | rfl | simp only [go_sem, List.getElem?_toArray, str_beq, reduceCtorEq, Nat.reduceEqDiff, Nat.reduceLT, Nat.reduceLeDiff, Nat.reduceAdd, Nat.reduceMul, Nat.reduceSub, Nat.reduceBEq, ↓reduceIte, hv, hn, hg, shut_col]
                   simp only [go_sem, List.getElem?_toArray, str_beq, reduceCtorEq, Nat.reduceEqDiff, Nat.reduceLT, Nat.reduceLeDiff, Nat.reduceAdd, Nat.reduceMul, Nat.reduceSub, Nat.reduceBEq, ↓reduceIte, hv, hn, hg])
                | (refine call_of (cT) ?_ ?_
                   · first | rfl | simp only [go_sem, List.getElem?_toArray, str_beq, reduceCtorEq, Nat.reduceEqDiff, Nat.reduceLT, Nat.reduceLeDiff, Nat.reduceAdd, Nat.reduceMul, Nat.reduceSub, Nat.reduceBEq, ↓reduceIte, hv, hn, hg, shut_col]
                   simp only [go_sem, List.getElem?_toArray, str_beq, reduceCtorEq, Nat.reduceEqDiff, Nat.reduceLT, Nat.reduceLeDiff, Nat.reduceAdd, Nat.reduceMul, Nat.reduceSub, Nat.reduceBEq, ↓reduceIte, hv, hn, hg])
                | refine k_of (by assumption) ?_
                | refine tr_block ?_
                | refine tr_scope ?_
                | (refine tr_skip ?_; try simp only [ex_seq, ex_block])
                | (refine tr_exit ?_; try simp only [ex_seq_exit, ex_block_exit, Nat.reduceEqDiff, if_true, if_false, ex_seq, ex_block, reduceCtorEq, ↓reduceIte])
                | (refine tr_ret ?_; try simp only [ex_seq_ret, ex_block_ret]))
            refine tr_cond rfl (fun ht => ?_) (fun hf => ?_)
            · cases ht
            · repeat (first
                  | refine tr_seq_k fun _ _ => ?_
                  | (refine tr_region ?_; simp only [go_sem, List.getElem?_toArray, str_beq, reduceCtorEq, Nat.reduceEqDiff, Nat.reduceLT, Nat.reduceLeDiff, Nat.reduceAdd, Nat.reduceMul, Nat.reduceSub, Nat.reduceBEq, ↓reduceIte])
                  | (refine tr_draw (id := 11) follows 10000 [2, 3, 5] [0, 1, 4, 2, 3, 5, 6, 7] (by kernel_rfl) ?_; simp only [go_sem, List.getElem?_toArray, str_beq, reduceCtorEq, Nat.reduceEqDiff, Nat.reduceLT, Nat.reduceLeDiff, Nat.reduceAdd, Nat.reduceMul, Nat.reduceSub, Nat.reduceBEq, ↓reduceIte])
                  | refine k_of (by assumption) ?_
                  | refine tr_block ?_
                  | refine tr_scope ?_
                  | (refine tr_skip ?_; try simp only [ex_seq, ex_block])
                  | (refine tr_exit ?_; try simp only [ex_seq_exit, ex_block_exit, Nat.reduceEqDiff, if_true, if_false, ex_seq, ex_block, reduceCtorEq, ↓reduceIte])
                  | (refine tr_ret ?_; try simp only [ex_seq_ret, ex_block_ret]))
              refine tr_cond rfl (fun ht => ?_) (fun hf => ?_)
              · repeat (first
                    | refine tr_seq_k fun _ _ => ?_
                    | (refine tr_region ?_; simp only [go_sem, List.getElem?_toArray, str_beq, reduceCtorEq, Nat.reduceEqDiff, Nat.reduceLT, Nat.reduceLeDiff, Nat.reduceAdd, Nat.reduceMul, Nat.reduceSub, Nat.reduceBEq, ↓reduceIte])
                    | (refine tr_draw (id := 11) follows 10000 [2, 3, 5] [0, 1, 4, 2, 3, 5, 6, 7] (by kernel_rfl) ?_; simp only [go_sem, List.getElem?_toArray, str_beq, reduceCtorEq, Nat.reduceEqDiff, Nat.reduceLT, Nat.reduceLeDiff, Nat.reduceAdd, Nat.reduceMul, Nat.reduceSub, Nat.reduceBEq, ↓reduceIte])
                    | refine k_of (by assumption) ?_
                    | refine tr_block ?_
                    | refine tr_scope ?_
                    | (refine tr_skip ?_; try simp only [ex_seq, ex_block])
                    | (refine tr_exit ?_; try simp only [ex_seq_exit, ex_block_exit, Nat.reduceEqDiff, if_true, if_false, ex_seq, ex_block, reduceCtorEq, ↓reduceIte])
                    | (refine tr_ret ?_; try simp only [ex_seq_ret, ex_block_ret]))
                refine (hQ _ _ [.c (.sl true 0 []), iA 5] ?_ (fun m => by rw [hL, hE]; rfl)).2 <;> simp only [go_sem, List.getElem?_toArray, str_beq, reduceCtorEq, Nat.reduceEqDiff, Nat.reduceLT, Nat.reduceLeDiff, Nat.reduceAdd, Nat.reduceMul, Nat.reduceSub, Nat.reduceBEq, ↓reduceIte, Try.f17]
              · cases hf
          | false =>
            have cO := own_does ⟨v, pterm l t⟩
            cases hx : pown ⟨v, pterm l t⟩ with
            | true =>
              have hE : pbE l v t = 2 := by simp [pbE, hc, hv', hn', hg, hx]
              have hL := pbL_err hE (by decide)
              rw [hx] at cO
              repeat (first
                  | refine tr_seq_k fun _ _ => ?_
                  | (refine tr_region ?_; simp only [go_sem, List.getElem?_toArray, str_beq, reduceCtorEq, Nat.reduceEqDiff, Nat.reduceLT, Nat.reduceLeDiff, Nat.reduceAdd, Nat.reduceMul, Nat.reduceSub, Nat.reduceBEq, ↓reduceIte, hv, hn, hg])
                  | (refine tr_draw (id := 11) follows 10000 [2, 3, 5] [0, 1, 4, 2, 3, 5, 6, 7] (by kernel_rfl) ?_; simp only [go_sem, List.getElem?_toArray, str_beq, reduceCtorEq, Nat.reduceEqDiff, Nat.reduceLT, Nat.reduceLeDiff, Nat.reduceAdd, Nat.reduceMul, Nat.reduceSub, Nat.reduceBEq, ↓reduceIte, hv, hn, hg])
                  | (refine call_of (cG) ?_ ?_
                     · first | rfl | simp only [go_sem, List.getElem?_toArray, str_beq, reduceCtorEq, Nat.reduceEqDiff, Nat.reduceLT, Nat.reduceLeDiff, Nat.reduceAdd, Nat.reduceMul, Nat.reduceSub, Nat.reduceBEq, ↓reduceIte, hv, hn, hg, shut_col]
                     simp only [go_sem, List.getElem?_toArray, str_beq, reduceCtorEq, Nat.reduceEqDiff, Nat.reduceLT, Nat.reduceLeDiff, Nat.reduceAdd, Nat.reduceMul, Nat.reduceSub, Nat.reduceBEq, ↓reduceIte, hv, hn, hg])
                  | (refine call_of (cT) ?_ ?_
                     · first | rfl | simp only [go_sem, List.getElem?_toArray, str_beq, reduceCtorEq, Nat.reduceEqDiff, Nat.reduceLT, Nat.reduceLeDiff, Nat.reduceAdd, Nat.reduceMul, Nat.reduceSub, Nat.reduceBEq, ↓reduceIte, hv, hn, hg, shut_col]
                     simp only [go_sem, List.getElem?_toArray, str_beq, reduceCtorEq, Nat.reduceEqDiff, Nat.reduceLT, Nat.reduceLeDiff, Nat.reduceAdd, Nat.reduceMul, Nat.reduceSub, Nat.reduceBEq, ↓reduceIte, hv, hn, hg])
                  | refine k_of (by assumption) ?_
                  | refine tr_block ?_
                  | refine tr_scope ?_
                  | (refine tr_skip ?_; try simp only [ex_seq, ex_block])
                  | (refine tr_exit ?_; try simp only [ex_seq_exit, ex_block_exit, Nat.reduceEqDiff, if_true, if_false, ex_seq, ex_block, reduceCtorEq, ↓reduceIte])
                  | (refine tr_ret ?_; try simp only [ex_seq_ret, ex_block_ret]))
              refine tr_cond rfl (fun ht => ?_) (fun hf => ?_)
              · cases ht
              · repeat (first
                    | refine tr_seq_k fun _ _ => ?_
                    | (refine tr_region ?_; simp only [go_sem, List.getElem?_toArray, str_beq, reduceCtorEq, Nat.reduceEqDiff, Nat.reduceLT, Nat.reduceLeDiff, Nat.reduceAdd, Nat.reduceMul, Nat.reduceSub, Nat.reduceBEq, ↓reduceIte])
                    | (refine tr_draw (id := 11) follows 10000 [2, 3, 5] [0, 1, 4, 2, 3, 5, 6, 7] (by kernel_rfl) ?_; simp only [go_sem, List.getElem?_toArray, str_beq, reduceCtorEq, Nat.reduceEqDiff, Nat.reduceLT, Nat.reduceLeDiff, Nat.reduceAdd, Nat.reduceMul, Nat.reduceSub, Nat.reduceBEq, ↓reduceIte])
                    | refine k_of (by assumption) ?_
                    | refine tr_block ?_
                    | refine tr_scope ?_
                    | (refine tr_skip ?_; try simp only [ex_seq, ex_block])
                    | (refine tr_exit ?_; try simp only [ex_seq_exit, ex_block_exit, Nat.reduceEqDiff, if_true, if_false, ex_seq, ex_block, reduceCtorEq, ↓reduceIte])
                    | (refine tr_ret ?_; try simp only [ex_seq_ret, ex_block_ret]))
                refine tr_cond rfl (fun ht => ?_) (fun hf => ?_)
                · cases ht
                · repeat (first
                      | refine tr_seq_k fun _ _ => ?_
                      | (refine tr_region ?_; simp only [go_sem, List.getElem?_toArray, str_beq, reduceCtorEq, Nat.reduceEqDiff, Nat.reduceLT, Nat.reduceLeDiff, Nat.reduceAdd, Nat.reduceMul, Nat.reduceSub, Nat.reduceBEq, ↓reduceIte])
                      | (refine tr_draw (id := 11) follows 10000 [2, 3, 5] [0, 1, 4, 2, 3, 5, 6, 7] (by kernel_rfl) ?_; simp only [go_sem, List.getElem?_toArray, str_beq, reduceCtorEq, Nat.reduceEqDiff, Nat.reduceLT, Nat.reduceLeDiff, Nat.reduceAdd, Nat.reduceMul, Nat.reduceSub, Nat.reduceBEq, ↓reduceIte])
                      | (refine call_of (cO) ?_ ?_
                         · first | rfl | simp only [go_sem, List.getElem?_toArray, str_beq, reduceCtorEq, Nat.reduceEqDiff, Nat.reduceLT, Nat.reduceLeDiff, Nat.reduceAdd, Nat.reduceMul, Nat.reduceSub, Nat.reduceBEq, ↓reduceIte, shut_col]
                         simp only [go_sem, List.getElem?_toArray, str_beq, reduceCtorEq, Nat.reduceEqDiff, Nat.reduceLT, Nat.reduceLeDiff, Nat.reduceAdd, Nat.reduceMul, Nat.reduceSub, Nat.reduceBEq, ↓reduceIte])
                      | refine k_of (by assumption) ?_
                      | refine tr_block ?_
                      | refine tr_scope ?_
                      | (refine tr_skip ?_; try simp only [ex_seq, ex_block])
                      | (refine tr_exit ?_; try simp only [ex_seq_exit, ex_block_exit, Nat.reduceEqDiff, if_true, if_false, ex_seq, ex_block, reduceCtorEq, ↓reduceIte])
                      | (refine tr_ret ?_; try simp only [ex_seq_ret, ex_block_ret]))
                  refine tr_cond rfl (fun ht => ?_) (fun hf => ?_)
                  · repeat (first
                        | refine tr_seq_k fun _ _ => ?_
                        | (refine tr_region ?_; simp only [go_sem, List.getElem?_toArray, str_beq, reduceCtorEq, Nat.reduceEqDiff, Nat.reduceLT, Nat.reduceLeDiff, Nat.reduceAdd, Nat.reduceMul, Nat.reduceSub, Nat.reduceBEq, ↓reduceIte])
                        | (refine tr_draw (id := 11) follows 10000 [2, 3, 5] [0, 1, 4, 2, 3, 5, 6, 7] (by kernel_rfl) ?_; simp only [go_sem, List.getElem?_toArray, str_beq, reduceCtorEq, Nat.reduceEqDiff, Nat.reduceLT, Nat.reduceLeDiff, Nat.reduceAdd, Nat.reduceMul, Nat.reduceSub, Nat.reduceBEq, ↓reduceIte])
                        | refine k_of (by assumption) ?_
                        | refine tr_block ?_
                        | refine tr_scope ?_
                        | (refine tr_skip ?_; try simp only [ex_seq, ex_block])
                        | (refine tr_exit ?_; try simp only [ex_seq_exit, ex_block_exit, Nat.reduceEqDiff, if_true, if_false, ex_seq, ex_block, reduceCtorEq, ↓reduceIte])
                        | (refine tr_ret ?_; try simp only [ex_seq_ret, ex_block_ret]))
                    refine (hQ _ _ [.c (.sl true 0 []), iA 2] ?_ (fun m => by rw [hL, hE]; rfl)).2 <;> simp only [go_sem, List.getElem?_toArray, str_beq, reduceCtorEq, Nat.reduceEqDiff, Nat.reduceLT, Nat.reduceLeDiff, Nat.reduceAdd, Nat.reduceMul, Nat.reduceSub, Nat.reduceBEq, ↓reduceIte, Try.f17]
                  · cases hf
            | false =>
              have hE : pbE l v t = 0 := by simp [pbE, hc, hv', hn', hg, hx]
              have hL : pbL l v t = pwith (punder l [⟨v, pterm l t⟩]) ⟨v, pterm l t⟩ := by unfold pbL; rw [if_pos hE]
              have hr : prises l = true := by
                unfold pcheck at hc
                simp only [Bool.and_eq_true] at hc
                exact hc.1
              rw [hx] at cO
              have cU := under_does l [⟨v, pterm l t⟩] ex true (by omega) (by simp)
              have cW := with_does (punder l [⟨v, pterm l t⟩]) ⟨v, pterm l t⟩ (punder l [⟨v, pterm l t⟩]).isEmpty (by rw [punder_len]; omega) (prises_punder hr)
              repeat (first
                  | refine tr_seq_k fun _ _ => ?_
                  | (refine tr_region ?_; simp only [go_sem, List.getElem?_toArray, str_beq, reduceCtorEq, Nat.reduceEqDiff, Nat.reduceLT, Nat.reduceLeDiff, Nat.reduceAdd, Nat.reduceMul, Nat.reduceSub, Nat.reduceBEq, ↓reduceIte, hv, hn, hg])
                  | (refine tr_draw (id := 11) follows 10000 [2, 3, 5] [0, 1, 4, 2, 3, 5, 6, 7] (by kernel_rfl) ?_; simp only [go_sem, List.getElem?_toArray, str_beq, reduceCtorEq, Nat.reduceEqDiff, Nat.reduceLT, Nat.reduceLeDiff, Nat.reduceAdd, Nat.reduceMul, Nat.reduceSub, Nat.reduceBEq, ↓reduceIte, hv, hn, hg])
                  | (refine call_of (cG) ?_ ?_
                     · first | rfl | simp only [go_sem, List.getElem?_toArray, str_beq, reduceCtorEq, Nat.reduceEqDiff, Nat.reduceLT, Nat.reduceLeDiff, Nat.reduceAdd, Nat.reduceMul, Nat.reduceSub, Nat.reduceBEq, ↓reduceIte, hv, hn, hg, shut_col]
                     simp only [go_sem, List.getElem?_toArray, str_beq, reduceCtorEq, Nat.reduceEqDiff, Nat.reduceLT, Nat.reduceLeDiff, Nat.reduceAdd, Nat.reduceMul, Nat.reduceSub, Nat.reduceBEq, ↓reduceIte, hv, hn, hg])
                  | (refine call_of (cT) ?_ ?_
                     · first | rfl | simp only [go_sem, List.getElem?_toArray, str_beq, reduceCtorEq, Nat.reduceEqDiff, Nat.reduceLT, Nat.reduceLeDiff, Nat.reduceAdd, Nat.reduceMul, Nat.reduceSub, Nat.reduceBEq, ↓reduceIte, hv, hn, hg, shut_col]
                     simp only [go_sem, List.getElem?_toArray, str_beq, reduceCtorEq, Nat.reduceEqDiff, Nat.reduceLT, Nat.reduceLeDiff, Nat.reduceAdd, Nat.reduceMul, Nat.reduceSub, Nat.reduceBEq, ↓reduceIte, hv, hn, hg])
                  | refine k_of (by assumption) ?_
                  | refine tr_block ?_
                  | refine tr_scope ?_
                  | (refine tr_skip ?_; try simp only [ex_seq, ex_block])
                  | (refine tr_exit ?_; try simp only [ex_seq_exit, ex_block_exit, Nat.reduceEqDiff, if_true, if_false, ex_seq, ex_block, reduceCtorEq, ↓reduceIte])
                  | (refine tr_ret ?_; try simp only [ex_seq_ret, ex_block_ret]))
              refine tr_cond rfl (fun ht => ?_) (fun hf => ?_)
              · cases ht
              · repeat (first
                    | refine tr_seq_k fun _ _ => ?_
                    | (refine tr_region ?_; simp only [go_sem, List.getElem?_toArray, str_beq, reduceCtorEq, Nat.reduceEqDiff, Nat.reduceLT, Nat.reduceLeDiff, Nat.reduceAdd, Nat.reduceMul, Nat.reduceSub, Nat.reduceBEq, ↓reduceIte])
                    | (refine tr_draw (id := 11) follows 10000 [2, 3, 5] [0, 1, 4, 2, 3, 5, 6, 7] (by kernel_rfl) ?_; simp only [go_sem, List.getElem?_toArray, str_beq, reduceCtorEq, Nat.reduceEqDiff, Nat.reduceLT, Nat.reduceLeDiff, Nat.reduceAdd, Nat.reduceMul, Nat.reduceSub, Nat.reduceBEq, ↓reduceIte])
                    | refine k_of (by assumption) ?_
                    | refine tr_block ?_
                    | refine tr_scope ?_
                    | (refine tr_skip ?_; try simp only [ex_seq, ex_block])
                    | (refine tr_exit ?_; try simp only [ex_seq_exit, ex_block_exit, Nat.reduceEqDiff, if_true, if_false, ex_seq, ex_block, reduceCtorEq, ↓reduceIte])
                    | (refine tr_ret ?_; try simp only [ex_seq_ret, ex_block_ret]))
                refine tr_cond rfl (fun ht => ?_) (fun hf => ?_)
                · cases ht
                · repeat (first
                      | refine tr_seq_k fun _ _ => ?_
                      | (refine tr_region ?_; simp only [go_sem, List.getElem?_toArray, str_beq, reduceCtorEq, Nat.reduceEqDiff, Nat.reduceLT, Nat.reduceLeDiff, Nat.reduceAdd, Nat.reduceMul, Nat.reduceSub, Nat.reduceBEq, ↓reduceIte])
                      | (refine tr_draw (id := 11) follows 10000 [2, 3, 5] [0, 1, 4, 2, 3, 5, 6, 7] (by kernel_rfl) ?_; simp only [go_sem, List.getElem?_toArray, str_beq, reduceCtorEq, Nat.reduceEqDiff, Nat.reduceLT, Nat.reduceLeDiff, Nat.reduceAdd, Nat.reduceMul, Nat.reduceSub, Nat.reduceBEq, ↓reduceIte])
                      | (refine call_of (cO) ?_ ?_
                         · first | rfl | simp only [go_sem, List.getElem?_toArray, str_beq, reduceCtorEq, Nat.reduceEqDiff, Nat.reduceLT, Nat.reduceLeDiff, Nat.reduceAdd, Nat.reduceMul, Nat.reduceSub, Nat.reduceBEq, ↓reduceIte, shut_col]
                         simp only [go_sem, List.getElem?_toArray, str_beq, reduceCtorEq, Nat.reduceEqDiff, Nat.reduceLT, Nat.reduceLeDiff, Nat.reduceAdd, Nat.reduceMul, Nat.reduceSub, Nat.reduceBEq, ↓reduceIte])
                      | refine k_of (by assumption) ?_
                      | refine tr_block ?_
                      | refine tr_scope ?_
                      | (refine tr_skip ?_; try simp only [ex_seq, ex_block])
                      | (refine tr_exit ?_; try simp only [ex_seq_exit, ex_block_exit, Nat.reduceEqDiff, if_true, if_false, ex_seq, ex_block, reduceCtorEq, ↓reduceIte])
                      | (refine tr_ret ?_; try simp only [ex_seq_ret, ex_block_ret]))
                  refine tr_cond rfl (fun ht => ?_) (fun hf => ?_)
                  · cases ht
                  · repeat (first
                        | refine tr_seq_k fun _ _ => ?_
                        | (refine tr_region ?_; simp only [go_sem, List.getElem?_toArray, str_beq, reduceCtorEq, Nat.reduceEqDiff, Nat.reduceLT, Nat.reduceLeDiff, Nat.reduceAdd, Nat.reduceMul, Nat.reduceSub, Nat.reduceBEq, ↓reduceIte, build1B', one_max])
                        | (refine tr_draw (id := 11) follows 10000 [2, 3, 5] [0, 1, 4, 2, 3, 5, 6, 7] (by kernel_rfl) ?_; simp only [go_sem, List.getElem?_toArray, str_beq, reduceCtorEq, Nat.reduceEqDiff, Nat.reduceLT, Nat.reduceLeDiff, Nat.reduceAdd, Nat.reduceMul, Nat.reduceSub, Nat.reduceBEq, ↓reduceIte, build1B', one_max])
                        | (refine call_of (cU) ?_ ?_
                           · first | rfl | simp only [go_sem, List.getElem?_toArray, str_beq, reduceCtorEq, Nat.reduceEqDiff, Nat.reduceLT, Nat.reduceLeDiff, Nat.reduceAdd, Nat.reduceMul, Nat.reduceSub, Nat.reduceBEq, ↓reduceIte, build1B', one_max, shut_col]
                           simp only [go_sem, List.getElem?_toArray, str_beq, reduceCtorEq, Nat.reduceEqDiff, Nat.reduceLT, Nat.reduceLeDiff, Nat.reduceAdd, Nat.reduceMul, Nat.reduceSub, Nat.reduceBEq, ↓reduceIte, build1B', one_max])
                        | (refine call_of (cW) ?_ ?_
                           · first | rfl | simp only [go_sem, List.getElem?_toArray, str_beq, reduceCtorEq, Nat.reduceEqDiff, Nat.reduceLT, Nat.reduceLeDiff, Nat.reduceAdd, Nat.reduceMul, Nat.reduceSub, Nat.reduceBEq, ↓reduceIte, build1B', one_max, shut_col]
                           simp only [go_sem, List.getElem?_toArray, str_beq, reduceCtorEq, Nat.reduceEqDiff, Nat.reduceLT, Nat.reduceLeDiff, Nat.reduceAdd, Nat.reduceMul, Nat.reduceSub, Nat.reduceBEq, ↓reduceIte, build1B', one_max])
                        | refine k_of (by assumption) ?_
                        | refine tr_block ?_
                        | refine tr_scope ?_
                        | (refine tr_skip ?_; try simp only [ex_seq, ex_block])
                        | (refine tr_exit ?_; try simp only [ex_seq_exit, ex_block_exit, Nat.reduceEqDiff, if_true, if_false, ex_seq, ex_block, reduceCtorEq, ↓reduceIte])
                        | (refine tr_ret ?_; try simp only [ex_seq_ret, ex_block_ret]))
                    refine (hQ _ _ [slB (pwith (punder l [⟨v, pterm l t⟩]) ⟨v, pterm l t⟩).isEmpty (pwith (punder l [⟨v, pterm l t⟩]) ⟨v, pterm l t⟩), iA 0] ?_ (fun m => by rw [hL, hE]; rfl)).2 <;> simp only [go_sem, List.getElem?_toArray, str_beq, reduceCtorEq, Nat.reduceEqDiff, Nat.reduceLT, Nat.reduceLeDiff, Nat.reduceAdd, Nat.reduceMul, Nat.reduceSub, Nat.reduceBEq, ↓reduceIte, Try.f17]
end Go.Proofs.Ytkkkpbnehpfkkaa

/-
  Chapter 4: the plain law of binding.
-/
set_option linter.unusedSimpArgs false
namespace Go.Proofs.Ytkkkpbnehpfkkaa
open Go.Vs Go.Vs.Ab

theorem pget_cons (b : Bd) (l : List Bd) (n : ByteArray) : pget (b :: l) n = if b.var = n then some b.t else pget l n := by
  unfold pget
  rw [List.find?_cons]
  by_cases h : b.var = n <;> simp [h]
theorem pget_append (a l : List Bd) (n : ByteArray) : pget (a ++ l) n = (pget a n).or (pget l n) := by
  induction a with
  | nil => simp [pget]
  | cons b a ih =>
    rw [List.cons_append, pget_cons, pget_cons, ih]
    split <;> rfl
theorem pget_none_iff {l : List Bd} {n : ByteArray} : pget l n = none ↔ ∀ b ∈ l, b.var ≠ n := by
  unfold pget
  rw [Option.map_eq_none_iff, List.find?_eq_none]
  simp
theorem pget_with {l : List Bd} {b : Bd} (h : pget l b.var = none) (n : ByteArray) : pget (pwith l b) n = if b.var = n then some b.t else pget l n := by
  have e := List.takeWhile_append_dropWhile (p := fun x : Bd => !blt b.var x.var) (l := l)
  unfold pwith
  rw [pget_append, pget_cons]
  have h2 : pget l n = (pget (l.takeWhile (fun x => !blt b.var x.var)) n).or (pget (l.dropWhile (fun x => !blt b.var x.var)) n) := by rw [← pget_append, e]
  by_cases hn : b.var = n
  · subst hn
    rw [h] at h2
    have : pget (l.takeWhile (fun x => !blt b.var x.var)) b.var = none := by
      cases h3 : pget (l.takeWhile (fun x => !blt b.var x.var)) b.var with
      | none => rfl
      | some u => rw [h3] at h2; simp at h2
    rw [this]
    simp
  · rw [if_neg hn, if_neg hn, h2]
theorem pget_under (l m : List Bd) (n : ByteArray) : pget (punder l m) n = (pget l n).map (pterm m) := by
  induction l with
  | nil => rfl
  | cons b l ih =>
    have : punder (b :: l) m = ⟨b.var, pterm m b.t⟩ :: punder l m := rfl
    rw [this, pget_cons, pget_cons, ih]
    split <;> rfl
theorem upto_twice (f g : Tm → Tm) (a : Atm) (k : Nat) : (a.upto f k).upto g k = a.upto (fun t => g (f t)) k := by
  unfold Atm.upto
  congr 1 <;> (split <;> simp_all)
theorem pbE_zero {l : List Bd} {v : ByteArray} {t : Tm} (h : pbE l v t = 0) : pcheck l = true ∧ v ≠ ⟨#[]⟩ ∧ t.name ≠ ⟨#[]⟩ ∧ pget l v = none ∧ pown ⟨v, pterm l t⟩ = false := by
  unfold pbE at h
  split at h
  · cases h
  · rename_i h1
    split at h
    · cases h
    · rename_i h2
      split at h
      · cases h
      · rename_i h3
        split at h
        · cases h
        · rename_i h4
          exact ⟨by simpa using h1, fun e => h2 (Or.inl e), fun e => h2 (Or.inr e), by simpa using h3, by simpa using h4⟩
theorem bind_get {l : List Bd} {v : ByteArray} {t : Tm} (h : pbE l v t = 0) (n : ByteArray) : pget (pbL l v t) n = if v = n then some (pterm l t) else (pget l n).map (pterm [⟨v, pterm l t⟩]) := by
  obtain ⟨_, _, _, hg, _⟩ := pbE_zero h
  unfold pbL
  rw [if_pos h, pget_with (by rw [pget_under, hg]; rfl), pget_under]
theorem bind_term {l : List Bd} {v : ByteArray} {t : Tm} (h : pbE l v t = 0) (s : Tm) : pterm (pbL l v t) s = pterm [⟨v, pterm l t⟩] (pterm l s) := by
  obtain ⟨_, _, _, hg, _⟩ := pbE_zero h
  have one : ∀ n, pget [⟨v, pterm l t⟩] n = if v = n then some (pterm l t) else none := fun n => by rw [pget_cons]; rfl
  unfold pterm
  by_cases hv : s.v = true
  · rw [if_pos hv, if_pos hv]
    have e := bind_get h s.name
    rw [e]
    by_cases hn : v = s.name
    · rw [if_pos hn]
      have : pget l s.name = none := by rw [← hn]; exact hg
      rw [this]
      simp only [Option.getD_none, if_pos hv]
      have o := one s.name
      unfold pterm at o
      rw [o, if_pos hn]
      rfl
    · rw [if_neg hn]
      cases hl : pget l s.name with
      | some u =>
        rfl
      | none =>
        simp only [Option.map_none, Option.getD_none, if_pos hv]
        have o := one s.name
        unfold pterm at o
        rw [o, if_neg hn]
        rfl
  · rw [if_neg hv, if_neg hv, if_neg hv]
theorem bind_app {l : List Bd} {v : ByteArray} {t : Tm} (h : pbE l v t = 0) (a : Atm) : papp (pbL l v t) a = papp [⟨v, pterm l t⟩] (papp l a) := by
  have hc : (papp l a).count = a.count := rfl
  unfold papp at hc ⊢
  rw [hc, upto_twice]
  exact congrArg (fun f => a.upto f a.count) (funext fun s => bind_term h s)
end Go.Proofs.Ytkkkpbnehpfkkaa

/-
  Chapter 4: the plain law of binding: what is bound, may be.
-/
set_option linter.unusedSimpArgs false
namespace Go.Proofs.Ytkkkpbnehpfkkaa
open Go.Vs Go.Vs.Ab

theorem mem_with {l : List Bd} {b y : Bd} : y ∈ pwith l b ↔ y = b ∨ y ∈ l := by
  have e := List.takeWhile_append_dropWhile (p := fun x : Bd => !blt b.var x.var) (l := l)
  have h : y ∈ l ↔ y ∈ l.takeWhile (fun x => !blt b.var x.var) ∨ y ∈ l.dropWhile (fun x => !blt b.var x.var) := by rw [← List.mem_append, e]
  rw [h]
  unfold pwith
  simp only [List.mem_append, List.mem_cons]
  constructor
  · rintro (a | a | a)
    · exact Or.inr (Or.inl a)
    · exact Or.inl a
    · exact Or.inr (Or.inr a)
  · rintro (a | a | a)
    · exact Or.inr (Or.inl a)
    · exact Or.inl a
    · exact Or.inr (Or.inr a)
theorem with_pair {b : Bd} : ∀ {l : List Bd}, l.Pairwise (fun x y => blt x.var y.var = true) → (∀ x ∈ l, x.var ≠ b.var) → (pwith l b).Pairwise (fun x y => blt x.var y.var = true)
  | [], _, _ => by simp [pwith]
  | x :: r, h, hn => by
    rw [List.pairwise_cons] at h
    cases hx : blt b.var x.var with
    | true =>
      have : pwith (x :: r) b = b :: x :: r := by simp [pwith, hx]
      rw [this, List.pairwise_cons, List.pairwise_cons]
      refine ⟨fun y hy => ?_, h⟩
      rcases List.mem_cons.1 hy with rfl | hy
      · exact hx
      · exact blt_trans hx (h.1 y hy)
    | false =>
      have : pwith (x :: r) b = x :: pwith r b := by simp [pwith, hx]
      rw [this, List.pairwise_cons]
      refine ⟨fun y hy => ?_, with_pair h.2 (fun z hz => hn z (by simp [hz]))⟩
      rcases mem_with.1 hy with rfl | hy
      · rcases blt_total x.var y.var with h1 | h1 | h1
        · exact h1
        · exact absurd h1 (hn x (by simp))
        · rw [h1] at hx; cases hx
      · exact h.1 y hy
theorem pcheck_iff {l : List Bd} : pcheck l = true ↔ l.Pairwise (fun x y => blt x.var y.var = true) ∧ ∀ b ∈ l, b.t.name ≠ ⟨#[]⟩ ∧ (b.t.v = true → pget l b.t.name = none) := by
  unfold pcheck
  rw [Bool.and_eq_true, List.all_eq_true]
  refine and_congr ⟨prises_lt, prises_of⟩ (forall_congr' fun b => forall_congr' fun _ => ?_)
  unfold pbad
  cases hv : b.t.v <;> cases hg : pget l b.t.name <;> simp [hg]
theorem bind_check {l : List Bd} {v : ByteArray} {t : Tm} (h : pbE l v t = 0) : pcheck (pbL l v t) = true := by
  obtain ⟨hc, _, hn, hg, hx⟩ := pbE_zero h
  obtain ⟨h1, h2⟩ := pcheck_iff.1 hc
  have hX : (pterm l t).name ≠ ⟨#[]⟩ ∧ ((pterm l t).v = true → pget l (pterm l t).name = none ∧ v ≠ (pterm l t).name) := by
    have hv : (pterm l t).v = true → v ≠ (pterm l t).name := fun e1 e2 => by simp [pown, e1, ← e2] at hx
    have key : (pterm l t).name ≠ ⟨#[]⟩ ∧ ((pterm l t).v = true → pget l (pterm l t).name = none) := by
      unfold pterm
      split
      · rename_i htv
        cases hl : pget l t.name with
        | none => exact ⟨hn, fun _ => hl⟩
        | some u =>
          have : ∃ b ∈ l, b.t = u := by
            unfold pget at hl
            rw [Option.map_eq_some_iff] at hl
            obtain ⟨b, hb, rfl⟩ := hl
            exact ⟨b, List.mem_of_find?_eq_some hb, rfl⟩
          obtain ⟨b, hb, rfl⟩ := this
          exact h2 b hb
      · rename_i htv
        exact ⟨hn, fun e => absurd e htv⟩
    exact ⟨key.1, fun e => ⟨key.2 e, hv e⟩⟩
  refine pcheck_iff.2 ⟨?_, fun b hb => ?_⟩
  · unfold pbL
    rw [if_pos h]
    refine with_pair ?_ fun x hx' => ?_
    · unfold punder
      rw [List.pairwise_map]
      exact h1
    · obtain ⟨y, hy, rfl⟩ := List.mem_map.1 hx'
      exact pget_none_iff.1 hg y hy
  · have free : ∀ n, pget l n = none → v ≠ n → pget (pbL l v t) n = none := fun n e1 e2 => by rw [bind_get h, if_neg e2, e1]; rfl
    have hXM : (pterm l t).v = true → pget (pbL l v t) (pterm l t).name = none := fun e => free _ (hX.2 e).1 (hX.2 e).2
    unfold pbL at hb
    rw [if_pos h] at hb
    rcases mem_with.1 hb with rfl | hb
    · exact ⟨hX.1, hXM⟩
    · obtain ⟨y, hy, rfl⟩ := List.mem_map.1 hb
      obtain ⟨g1, g2⟩ := h2 y hy
      show (pterm [⟨v, pterm l t⟩] y.t).name ≠ ⟨#[]⟩ ∧ ((pterm [⟨v, pterm l t⟩] y.t).v = true → pget (pbL l v t) (pterm [⟨v, pterm l t⟩] y.t).name = none)
      generalize hXX : pterm l t = X at *
      unfold pterm
      split
      · rename_i hyv
        rw [pget_cons]
        by_cases e : v = y.t.name
        · rw [if_pos e]
          exact ⟨hX.1, hXM⟩
        · rw [if_neg e]
          exact ⟨g1, fun _ => free _ (g2 hyv) e⟩
      · rename_i hyv
        exact ⟨g1, fun e => absurd e hyv⟩
theorem made_check (l : List Bd) : pcheck (pmade l) = true := by
  have key : ∀ (l acc : List Bd), pcheck acc = true → pcheck (l.foldl (fun o b => if pbE o b.var b.t = 0 then pbL o b.var b.t else o) acc) = true := by
    intro l
    induction l with
    | nil => intro acc h; exact h
    | cons x l ih =>
      intro acc h
      rw [List.foldl_cons]
      refine ih _ ?_
      split
      · rename_i e; exact bind_check e
      · exact h
  exact key l [] rfl
theorem bin_neT (x y : Operand) (s t : Tm) : pureVal Try.prog (do eqGuard .neq 24 x y (.agg #[.bool s.v, .string s.name]) (.agg #[.bool t.v, .string t.name]); binOp .neq 24 (.agg #[.bool s.v, .string s.name]) (.agg #[.bool t.v, .string t.name])) = some (.bool (!decide (s = t))) := by
  have hg : Try.prog.eqGuardType Try.prog.depth 24 = false := by kernel_rfl
  have h := pv_eq_tm (d := 9998) s t
  have g : pureVal Try.prog (eqGuard .neq 24 x y (.agg #[.bool s.v, .string s.name]) (.agg #[.bool t.v, .string t.name])) = some () := by
    simp [eqGuard, pv_bind, pv_prog, pv_pure, hg]
  rw [pv_bind, g, Option.bind_some]
  have e : binOp .neq 24 (.agg #[.bool s.v, .string s.name]) (.agg #[.bool t.v, .string t.name]) = (do pure (Value.bool (!(← Op.equal 24 (.agg #[.bool s.v, .string s.name]) (.agg #[.bool t.v, .string t.name]))))) := rfl
  rw [e, pv_bind]
  have h' : pureVal Try.prog (Op.equal 24 (.agg #[.bool s.v, .string s.name]) (.agg #[.bool t.v, .string t.name])) = some (decide (s = t)) := h
  rw [h']
  rfl
theorem pbL_length {l : List Bd} {v : ByteArray} {t : Tm} (h : pbE l v t = 0) : (pbL l v t).length = l.length + 1 := by
  unfold pbL
  rw [if_pos h, pwith_len, punder_len]
theorem pget_idx {l : List Bd} (hc : pcheck l = true) {k : Nat} (hk : k < l.length) : pget l l[k].var = some l[k].t := by
  refine pget_at hk (fun j hj hjk => ?_) rfl
  have := List.pairwise_iff_getElem.1 (pcheck_iff.1 hc).1 j k hj hk hjk
  exact blt_ne this
theorem bind_get_old {l : List Bd} {v : ByteArray} {t : Tm} (h : pbE l v t = 0) {k : Nat} (hk : k < l.length) : pget (pbL l v t) l[k].var = some (pterm [⟨v, pterm l t⟩] l[k].t) := by
  obtain ⟨hc, _, _, hg, _⟩ := pbE_zero h
  have hne : ¬ v = l[k].var := fun e => pget_none_iff.1 hg l[k] (List.getElem_mem hk) e.symm
  rw [bind_get h, if_neg hne, pget_idx hc hk]
  rfl
end Go.Proofs.Ytkkkpbnehpfkkaa
