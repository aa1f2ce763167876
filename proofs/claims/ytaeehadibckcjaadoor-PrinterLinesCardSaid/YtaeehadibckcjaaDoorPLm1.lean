/-
  Part 1 of the proof's own texts: general lemmas and contracts of functions, laid one behind the other.
-/
import Derived.Test.YtaeehadibckcjaaDoorPLm0
import Derived.Lib.ItoaLen
set_option linter.unusedSimpArgs false
set_option linter.unusedVariables false
namespace Go.Proofs.YtaeehadibckcjaaDoor
open Go.Vs Go.Vs.Ab
set_option maxRecDepth 100000
set_option maxHeartbeats 4000000
structure Prd where
  name : ByteArray
  ar : Int
structure Clr where
  who : ByteArray
  ex : Bool
  reads : List ByteArray
structure Rul where
  head : Atm
  ex : Bool
  body : List Atm
structure Grt where
  tw : ByteArray
  head : Atm
  ex : Bool
  body : List Atm
structure Pol where
  e1 : Bool
  prin : List ByteArray
  e2 : Bool
  preds : List Prd
  e3 : Bool
  clears : List Clr
  quota : Int
  budget : Int
  e4 : Bool
  rules : List Rul
  e5 : Bool
  grants : List Grt
abbrev slC {T : Type} (enc : T → List CV) (ex : Bool) (l : List T) : CV := .sl ex l.length (l.flatMap enc)
def prC (p : Prd) : List CV := [.v (.string p.name), .v (.int .i64 p.ar)]
def clC (c : Clr) : List CV := [.v (.string c.who), slC stC c.ex c.reads]
def ruC (r : Rul) : List CV := [.v (.string r.head.says), .v (.string r.head.pred), .v (.int .i64 r.head.n), .v (.bool r.head.a0.v), .v (.string r.head.a0.name), .v (.bool r.head.a1.v), .v (.string r.head.a1.name), .v (.bool r.head.a2.v), .v (.string r.head.a2.name), .v (.bool r.head.a3.v), .v (.string r.head.a3.name)] ++ [slC atC r.ex r.body]
def grC (g : Grt) : List CV := .v (.string g.tw) :: ([.v (.string g.head.says), .v (.string g.head.pred), .v (.int .i64 g.head.n), .v (.bool g.head.a0.v), .v (.string g.head.a0.name), .v (.bool g.head.a1.v), .v (.string g.head.a1.name), .v (.bool g.head.a2.v), .v (.string g.head.a2.name), .v (.bool g.head.a3.v), .v (.string g.head.a3.name)] ++ [slC atC g.ex g.body])
def poC (p : Pol) : List CV := [slC stC p.e1 p.prin, slC prC p.e2 p.preds, slC clC p.e3 p.clears, .v (.int .i64 p.quota), .v (.int .i64 p.budget), slC ruC p.e4 p.rules, slC grC p.e5 p.grants]
abbrev ruA (r : Rul) : AV := .agg (ruC r)
abbrev grA (g : Grt) : AV := .agg (grC g)
abbrev clA (c : Clr) : AV := .agg (clC c)
abbrev poA (p : Pol) : AV := .agg (poC p)
attribute [go_sem] prC clC ruC grC poC
theorem idxP {ex : Bool} {l : List Prd} {k : Nat} (h : k < l.length) : aIndexAddr Tryd.prog 24 (.c (slC prC ex l)) (.c (.v (.int .i64 (k : Int)))) = some (.cptr (prC l[k] ++ (l.drop (k + 1)).flatMap prC)) :=
  idx_R prC 2 (fun _ => rfl) Tryd.underlying24 sz69 (by decide) h
theorem idxC {ex : Bool} {l : List Clr} {k : Nat} (h : k < l.length) : aIndexAddr Tryd.prog 25 (.c (slC clC ex l)) (.c (.v (.int .i64 (k : Int)))) = some (.cptr (clC l[k] ++ (l.drop (k + 1)).flatMap clC)) :=
  idx_R clC 2 (fun _ => rfl) Tryd.underlying25 sz54 (by decide) h
theorem idxRu {ex : Bool} {l : List Rul} {k : Nat} (h : k < l.length) : aIndexAddr Tryd.prog 26 (.c (slC ruC ex l)) (.c (.v (.int .i64 (k : Int)))) = some (.cptr (ruC l[k] ++ (l.drop (k + 1)).flatMap ruC)) :=
  idx_R ruC 12 (fun _ => rfl) Tryd.underlying26 sz45 (by decide) h
theorem idxGr {ex : Bool} {l : List Grt} {k : Nat} (h : k < l.length) : aIndexAddr Tryd.prog 27 (.c (slC grC ex l)) (.c (.v (.int .i64 (k : Int)))) = some (.cptr (grC l[k] ++ (l.drop (k + 1)).flatMap grC)) :=
  idx_R grC 13 (fun _ => rfl) Tryd.underlying27 sz48 (by decide) h
/-! ### light policies -/
def gPr (p : Prd) : Bool := !decide ((p.name.size : Int) > 300)
def gCl (c : Clr) : Bool := !decide ((c.who.size : Int) > 300) && lightTx c.reads 40 3000
def gRu (r : Rul) : Bool := lightA r.head && lightAs r.body 9
def gGr (g : Grt) : Bool := !decide ((g.tw.size : Int) > 300) && (lightA g.head && lightAs g.body 9)
def lightP (p : Pol) : Bool := lightTx p.prin 70 6000 && !decide ((p.preds.length : Int) > 70) && !decide ((p.clears.length : Int) > 70) && !decide ((p.rules.length : Int) > 70) && !decide ((p.grants.length : Int) > 70)
  && p.preds.all gPr && p.clears.all gCl && p.rules.all gRu && p.grants.all gGr
theorem all_bad {T : Type} {g : T → Bool} {l : List T} {i : Nat} (hi : i < l.length) (h : g l[i] = false) : l.all g = false := by
  rw [List.all_eq_false]
  exact ⟨l[i], List.getElem_mem hi, by simp [h]⟩
theorem all_ok {T : Type} {g : T → Bool} {l : List T} (h : ∀ (j : Nat) (hj : j < l.length), g l[j] = true) : l.all g = true := by
  rw [List.all_eq_true]
  intro x hx
  obtain ⟨j, hj, rfl⟩ := List.mem_iff_getElem.1 hx
  exact h j hj
theorem next_ok {T : Type} {g : T → Bool} {l : List T} {i : Nat} (h : ∀ (j : Nat) (hj : j < l.length), j < i → g l[j] = true) (hi : i < l.length) (hg : g l[i] = true) : ∀ (j : Nat) (hj : j < l.length), j < i + 1 → g l[j] = true := fun j hj hji => by
  rcases Nat.lt_or_ge j i with hl | hl
  · exact h j hj hl
  · have : j = i := by omega
    subst this
    exact hg
theorem lightP_does (p : Pol) : Does Tryd.prog 12 [poA p] (fun m => (bA (lightP p), m)) := by
  have cT := lightTexts_does p.prin 70 6000 p.e1 (by decide)
  cases hT : lightTx p.prin 70 6000 with
  | false =>
    have hr : lightP p = false := by simp [lightP, hT]
    rw [hr]
    rw [hT] at cT
    refine does_of' Tryd.func12 rfl (by kernel_rfl) rfl Tryd.ntmps12 rfl rfl fun Q hQ => ?_
    repeat (first | refine tr_seq_k fun _ _ => ?_ | (refine tr_region ?_; simp only [go_sem, List.getElem?_toArray, str_beq, reduceCtorEq, Nat.reduceEqDiff, Nat.reduceLT, Nat.reduceLeDiff, Nat.reduceAdd, Nat.reduceMul, Nat.reduceSub, Nat.reduceBEq, ↓reduceIte, bne_self_eq_false, Bool.and_false, Bool.false_and, Bool.true_or, Bool.false_or, hT]) | (refine call_of (cT) ?_ ?_; (first | rfl | simp only [go_sem, List.getElem?_toArray, str_beq, reduceCtorEq, Nat.reduceEqDiff, Nat.reduceLT, Nat.reduceLeDiff, Nat.reduceAdd, Nat.reduceMul, Nat.reduceSub, Nat.reduceBEq, ↓reduceIte, bne_self_eq_false, Bool.and_false, Bool.false_and, Bool.true_or, Bool.false_or, hT, shut_col]); simp only [go_sem, List.getElem?_toArray, str_beq, reduceCtorEq, Nat.reduceEqDiff, Nat.reduceLT, Nat.reduceLeDiff, Nat.reduceAdd, Nat.reduceMul, Nat.reduceSub, Nat.reduceBEq, ↓reduceIte, bne_self_eq_false, Bool.and_false, Bool.false_and, Bool.true_or, Bool.false_or, hT]) | refine k_of (by assumption) ?_ | refine tr_block ?_ | refine tr_scope ?_ | (refine tr_skip ?_; try simp only [ex_seq, ex_block]) | (refine tr_label ?_; try simp only [ex_seq, ex_block]) | (refine tr_exit ?_; try simp only [ex_seq_exit, ex_block_exit, Nat.reduceEqDiff, if_true, if_false, ex_seq, ex_block, reduceCtorEq, ↓reduceIte]) | (refine tr_ret ?_; try simp only [ex_seq_ret, ex_block_ret]))
    refine tr_cond rfl (fun ht => ?_) (fun hf => ?_)
    · repeat (first | refine tr_seq_k fun _ _ => ?_ | (refine tr_region ?_; simp only [go_sem, List.getElem?_toArray, str_beq, reduceCtorEq, Nat.reduceEqDiff, Nat.reduceLT, Nat.reduceLeDiff, Nat.reduceAdd, Nat.reduceMul, Nat.reduceSub, Nat.reduceBEq, ↓reduceIte, bne_self_eq_false, Bool.and_false, Bool.false_and, Bool.true_or, Bool.false_or]) | refine k_of (by assumption) ?_ | refine tr_block ?_ | refine tr_scope ?_ | (refine tr_skip ?_; try simp only [ex_seq, ex_block]) | (refine tr_label ?_; try simp only [ex_seq, ex_block]) | (refine tr_exit ?_; try simp only [ex_seq_exit, ex_block_exit, Nat.reduceEqDiff, if_true, if_false, ex_seq, ex_block, reduceCtorEq, ↓reduceIte]) | (refine tr_ret ?_; try simp only [ex_seq_ret, ex_block_ret]))
      refine (hQ _ _ [bA false] ?_ (fun m => ?_)).2 <;> simp only [go_sem, List.getElem?_toArray, str_beq, reduceCtorEq, Nat.reduceEqDiff, Nat.reduceLT, Nat.reduceLeDiff, Nat.reduceAdd, Nat.reduceMul, Nat.reduceSub, Nat.reduceBEq, ↓reduceIte, bne_self_eq_false, Bool.and_false, Bool.false_and, Bool.true_or, Bool.false_or, Tryd.f12,]
    · cases hf
  | true =>
    rw [hT] at cT
    cases d2 : decide ((p.preds.length : Int) > 70) with
    | true =>
      have hr : lightP p = false := by simp [lightP, hT, d2]
      rw [hr]
      skip
      refine does_of' Tryd.func12 rfl (by kernel_rfl) rfl Tryd.ntmps12 rfl rfl fun Q hQ => ?_
      repeat (first | refine tr_seq_k fun _ _ => ?_ | (refine tr_region ?_; simp only [go_sem, List.getElem?_toArray, str_beq, reduceCtorEq, Nat.reduceEqDiff, Nat.reduceLT, Nat.reduceLeDiff, Nat.reduceAdd, Nat.reduceMul, Nat.reduceSub, Nat.reduceBEq, ↓reduceIte, bne_self_eq_false, Bool.and_false, Bool.false_and, Bool.true_or, Bool.false_or, hT, d2]) | (refine call_of (cT) ?_ ?_; (first | rfl | simp only [go_sem, List.getElem?_toArray, str_beq, reduceCtorEq, Nat.reduceEqDiff, Nat.reduceLT, Nat.reduceLeDiff, Nat.reduceAdd, Nat.reduceMul, Nat.reduceSub, Nat.reduceBEq, ↓reduceIte, bne_self_eq_false, Bool.and_false, Bool.false_and, Bool.true_or, Bool.false_or, hT, d2, shut_col]); simp only [go_sem, List.getElem?_toArray, str_beq, reduceCtorEq, Nat.reduceEqDiff, Nat.reduceLT, Nat.reduceLeDiff, Nat.reduceAdd, Nat.reduceMul, Nat.reduceSub, Nat.reduceBEq, ↓reduceIte, bne_self_eq_false, Bool.and_false, Bool.false_and, Bool.true_or, Bool.false_or, hT, d2]) | refine k_of (by assumption) ?_ | refine tr_block ?_ | refine tr_scope ?_ | (refine tr_skip ?_; try simp only [ex_seq, ex_block]) | (refine tr_label ?_; try simp only [ex_seq, ex_block]) | (refine tr_exit ?_; try simp only [ex_seq_exit, ex_block_exit, Nat.reduceEqDiff, if_true, if_false, ex_seq, ex_block, reduceCtorEq, ↓reduceIte]) | (refine tr_ret ?_; try simp only [ex_seq_ret, ex_block_ret]))
      refine tr_cond rfl (fun ht => ?_) (fun hf => ?_)
      · repeat (first | refine tr_seq_k fun _ _ => ?_ | (refine tr_region ?_; simp only [go_sem, List.getElem?_toArray, str_beq, reduceCtorEq, Nat.reduceEqDiff, Nat.reduceLT, Nat.reduceLeDiff, Nat.reduceAdd, Nat.reduceMul, Nat.reduceSub, Nat.reduceBEq, ↓reduceIte, bne_self_eq_false, Bool.and_false, Bool.false_and, Bool.true_or, Bool.false_or]) | refine k_of (by assumption) ?_ | refine tr_block ?_ | refine tr_scope ?_ | (refine tr_skip ?_; try simp only [ex_seq, ex_block]) | (refine tr_label ?_; try simp only [ex_seq, ex_block]) | (refine tr_exit ?_; try simp only [ex_seq_exit, ex_block_exit, Nat.reduceEqDiff, if_true, if_false, ex_seq, ex_block, reduceCtorEq, ↓reduceIte]) | (refine tr_ret ?_; try simp only [ex_seq_ret, ex_block_ret]))
        refine (hQ _ _ [bA false] ?_ (fun m => ?_)).2 <;> simp only [go_sem, List.getElem?_toArray, str_beq, reduceCtorEq, Nat.reduceEqDiff, Nat.reduceLT, Nat.reduceLeDiff, Nat.reduceAdd, Nat.reduceMul, Nat.reduceSub, Nat.reduceBEq, ↓reduceIte, bne_self_eq_false, Bool.and_false, Bool.false_and, Bool.true_or, Bool.false_or, Tryd.f12,]
      · cases hf
    | false =>
      cases d3 : decide ((p.clears.length : Int) > 70) with
      | true =>
        have hr : lightP p = false := by simp [lightP, hT, d2, d3]
        rw [hr]
        skip
        refine does_of' Tryd.func12 rfl (by kernel_rfl) rfl Tryd.ntmps12 rfl rfl fun Q hQ => ?_
        repeat (first | refine tr_seq_k fun _ _ => ?_ | (refine tr_region ?_; simp only [go_sem, List.getElem?_toArray, str_beq, reduceCtorEq, Nat.reduceEqDiff, Nat.reduceLT, Nat.reduceLeDiff, Nat.reduceAdd, Nat.reduceMul, Nat.reduceSub, Nat.reduceBEq, ↓reduceIte, bne_self_eq_false, Bool.and_false, Bool.false_and, Bool.true_or, Bool.false_or, hT, d2, d3]) | (refine call_of (cT) ?_ ?_; (first | rfl | simp only [go_sem, List.getElem?_toArray, str_beq, reduceCtorEq, Nat.reduceEqDiff, Nat.reduceLT, Nat.reduceLeDiff, Nat.reduceAdd, Nat.reduceMul, Nat.reduceSub, Nat.reduceBEq, ↓reduceIte, bne_self_eq_false, Bool.and_false, Bool.false_and, Bool.true_or, Bool.false_or, hT, d2, d3, shut_col]); simp only [go_sem, List.getElem?_toArray, str_beq, reduceCtorEq, Nat.reduceEqDiff, Nat.reduceLT, Nat.reduceLeDiff, Nat.reduceAdd, Nat.reduceMul, Nat.reduceSub, Nat.reduceBEq, ↓reduceIte, bne_self_eq_false, Bool.and_false, Bool.false_and, Bool.true_or, Bool.false_or, hT, d2, d3]) | refine k_of (by assumption) ?_ | refine tr_block ?_ | refine tr_scope ?_ | (refine tr_skip ?_; try simp only [ex_seq, ex_block]) | (refine tr_label ?_; try simp only [ex_seq, ex_block]) | (refine tr_exit ?_; try simp only [ex_seq_exit, ex_block_exit, Nat.reduceEqDiff, if_true, if_false, ex_seq, ex_block, reduceCtorEq, ↓reduceIte]) | (refine tr_ret ?_; try simp only [ex_seq_ret, ex_block_ret]))
        refine tr_cond rfl (fun ht => ?_) (fun hf => ?_)
        · repeat (first | refine tr_seq_k fun _ _ => ?_ | (refine tr_region ?_; simp only [go_sem, List.getElem?_toArray, str_beq, reduceCtorEq, Nat.reduceEqDiff, Nat.reduceLT, Nat.reduceLeDiff, Nat.reduceAdd, Nat.reduceMul, Nat.reduceSub, Nat.reduceBEq, ↓reduceIte, bne_self_eq_false, Bool.and_false, Bool.false_and, Bool.true_or, Bool.false_or]) | refine k_of (by assumption) ?_ | refine tr_block ?_ | refine tr_scope ?_ | (refine tr_skip ?_; try simp only [ex_seq, ex_block]) | (refine tr_label ?_; try simp only [ex_seq, ex_block]) | (refine tr_exit ?_; try simp only [ex_seq_exit, ex_block_exit, Nat.reduceEqDiff, if_true, if_false, ex_seq, ex_block, reduceCtorEq, ↓reduceIte]) | (refine tr_ret ?_; try simp only [ex_seq_ret, ex_block_ret]))
          refine (hQ _ _ [bA false] ?_ (fun m => ?_)).2 <;> simp only [go_sem, List.getElem?_toArray, str_beq, reduceCtorEq, Nat.reduceEqDiff, Nat.reduceLT, Nat.reduceLeDiff, Nat.reduceAdd, Nat.reduceMul, Nat.reduceSub, Nat.reduceBEq, ↓reduceIte, bne_self_eq_false, Bool.and_false, Bool.false_and, Bool.true_or, Bool.false_or, Tryd.f12,]
        · cases hf
      | false =>
        cases d4 : decide ((p.rules.length : Int) > 70) with
        | true =>
          have hr : lightP p = false := by simp [lightP, hT, d2, d3, d4]
          rw [hr]
          skip
          refine does_of' Tryd.func12 rfl (by kernel_rfl) rfl Tryd.ntmps12 rfl rfl fun Q hQ => ?_
          repeat (first | refine tr_seq_k fun _ _ => ?_ | (refine tr_region ?_; simp only [go_sem, List.getElem?_toArray, str_beq, reduceCtorEq, Nat.reduceEqDiff, Nat.reduceLT, Nat.reduceLeDiff, Nat.reduceAdd, Nat.reduceMul, Nat.reduceSub, Nat.reduceBEq, ↓reduceIte, bne_self_eq_false, Bool.and_false, Bool.false_and, Bool.true_or, Bool.false_or, hT, d2, d3, d4]) | (refine call_of (cT) ?_ ?_; (first | rfl | simp only [go_sem, List.getElem?_toArray, str_beq, reduceCtorEq, Nat.reduceEqDiff, Nat.reduceLT, Nat.reduceLeDiff, Nat.reduceAdd, Nat.reduceMul, Nat.reduceSub, Nat.reduceBEq, ↓reduceIte, bne_self_eq_false, Bool.and_false, Bool.false_and, Bool.true_or, Bool.false_or, hT, d2, d3, d4, shut_col]); simp only [go_sem, List.getElem?_toArray, str_beq, reduceCtorEq, Nat.reduceEqDiff, Nat.reduceLT, Nat.reduceLeDiff, Nat.reduceAdd, Nat.reduceMul, Nat.reduceSub, Nat.reduceBEq, ↓reduceIte, bne_self_eq_false, Bool.and_false, Bool.false_and, Bool.true_or, Bool.false_or, hT, d2, d3, d4]) | refine k_of (by assumption) ?_ | refine tr_block ?_ | refine tr_scope ?_ | (refine tr_skip ?_; try simp only [ex_seq, ex_block]) | (refine tr_label ?_; try simp only [ex_seq, ex_block]) | (refine tr_exit ?_; try simp only [ex_seq_exit, ex_block_exit, Nat.reduceEqDiff, if_true, if_false, ex_seq, ex_block, reduceCtorEq, ↓reduceIte]) | (refine tr_ret ?_; try simp only [ex_seq_ret, ex_block_ret]))
          refine tr_cond rfl (fun ht => ?_) (fun hf => ?_)
          · repeat (first | refine tr_seq_k fun _ _ => ?_ | (refine tr_region ?_; simp only [go_sem, List.getElem?_toArray, str_beq, reduceCtorEq, Nat.reduceEqDiff, Nat.reduceLT, Nat.reduceLeDiff, Nat.reduceAdd, Nat.reduceMul, Nat.reduceSub, Nat.reduceBEq, ↓reduceIte, bne_self_eq_false, Bool.and_false, Bool.false_and, Bool.true_or, Bool.false_or]) | refine k_of (by assumption) ?_ | refine tr_block ?_ | refine tr_scope ?_ | (refine tr_skip ?_; try simp only [ex_seq, ex_block]) | (refine tr_label ?_; try simp only [ex_seq, ex_block]) | (refine tr_exit ?_; try simp only [ex_seq_exit, ex_block_exit, Nat.reduceEqDiff, if_true, if_false, ex_seq, ex_block, reduceCtorEq, ↓reduceIte]) | (refine tr_ret ?_; try simp only [ex_seq_ret, ex_block_ret]))
            refine (hQ _ _ [bA false] ?_ (fun m => ?_)).2 <;> simp only [go_sem, List.getElem?_toArray, str_beq, reduceCtorEq, Nat.reduceEqDiff, Nat.reduceLT, Nat.reduceLeDiff, Nat.reduceAdd, Nat.reduceMul, Nat.reduceSub, Nat.reduceBEq, ↓reduceIte, bne_self_eq_false, Bool.and_false, Bool.false_and, Bool.true_or, Bool.false_or, Tryd.f12,]
          · cases hf
        | false =>
          cases d5 : decide ((p.grants.length : Int) > 70) with
          | true =>
            have hr : lightP p = false := by simp [lightP, hT, d2, d3, d4, d5]
            rw [hr]
            skip
            refine does_of' Tryd.func12 rfl (by kernel_rfl) rfl Tryd.ntmps12 rfl rfl fun Q hQ => ?_
            repeat (first | refine tr_seq_k fun _ _ => ?_ | (refine tr_region ?_; simp only [go_sem, List.getElem?_toArray, str_beq, reduceCtorEq, Nat.reduceEqDiff, Nat.reduceLT, Nat.reduceLeDiff, Nat.reduceAdd, Nat.reduceMul, Nat.reduceSub, Nat.reduceBEq, ↓reduceIte, bne_self_eq_false, Bool.and_false, Bool.false_and, Bool.true_or, Bool.false_or, hT, d2, d3, d4, d5]) | (refine call_of (cT) ?_ ?_; (first | rfl | simp only [go_sem, List.getElem?_toArray, str_beq, reduceCtorEq, Nat.reduceEqDiff, Nat.reduceLT, Nat.reduceLeDiff, Nat.reduceAdd, Nat.reduceMul, Nat.reduceSub, Nat.reduceBEq, ↓reduceIte, bne_self_eq_false, Bool.and_false, Bool.false_and, Bool.true_or, Bool.false_or, hT, d2, d3, d4, d5, shut_col]); simp only [go_sem, List.getElem?_toArray, str_beq, reduceCtorEq, Nat.reduceEqDiff, Nat.reduceLT, Nat.reduceLeDiff, Nat.reduceAdd, Nat.reduceMul, Nat.reduceSub, Nat.reduceBEq, ↓reduceIte, bne_self_eq_false, Bool.and_false, Bool.false_and, Bool.true_or, Bool.false_or, hT, d2, d3, d4, d5]) | refine k_of (by assumption) ?_ | refine tr_block ?_ | refine tr_scope ?_ | (refine tr_skip ?_; try simp only [ex_seq, ex_block]) | (refine tr_label ?_; try simp only [ex_seq, ex_block]) | (refine tr_exit ?_; try simp only [ex_seq_exit, ex_block_exit, Nat.reduceEqDiff, if_true, if_false, ex_seq, ex_block, reduceCtorEq, ↓reduceIte]) | (refine tr_ret ?_; try simp only [ex_seq_ret, ex_block_ret]))
            refine tr_cond rfl (fun ht => ?_) (fun hf => ?_)
            · repeat (first | refine tr_seq_k fun _ _ => ?_ | (refine tr_region ?_; simp only [go_sem, List.getElem?_toArray, str_beq, reduceCtorEq, Nat.reduceEqDiff, Nat.reduceLT, Nat.reduceLeDiff, Nat.reduceAdd, Nat.reduceMul, Nat.reduceSub, Nat.reduceBEq, ↓reduceIte, bne_self_eq_false, Bool.and_false, Bool.false_and, Bool.true_or, Bool.false_or]) | refine k_of (by assumption) ?_ | refine tr_block ?_ | refine tr_scope ?_ | (refine tr_skip ?_; try simp only [ex_seq, ex_block]) | (refine tr_label ?_; try simp only [ex_seq, ex_block]) | (refine tr_exit ?_; try simp only [ex_seq_exit, ex_block_exit, Nat.reduceEqDiff, if_true, if_false, ex_seq, ex_block, reduceCtorEq, ↓reduceIte]) | (refine tr_ret ?_; try simp only [ex_seq_ret, ex_block_ret]))
              refine (hQ _ _ [bA false] ?_ (fun m => ?_)).2 <;> simp only [go_sem, List.getElem?_toArray, str_beq, reduceCtorEq, Nat.reduceEqDiff, Nat.reduceLT, Nat.reduceLeDiff, Nat.reduceAdd, Nat.reduceMul, Nat.reduceSub, Nat.reduceBEq, ↓reduceIte, bne_self_eq_false, Bool.and_false, Bool.false_and, Bool.true_or, Bool.false_or, Tryd.f12,]
            · cases hf
          | false =>
            refine does_of' Tryd.func12 rfl (by kernel_rfl) rfl Tryd.ntmps12 rfl rfl fun Q hQ => ?_
            repeat (first | refine tr_seq_k fun _ _ => ?_ | (refine tr_region ?_; simp only [go_sem, List.getElem?_toArray, str_beq, reduceCtorEq, Nat.reduceEqDiff, Nat.reduceLT, Nat.reduceLeDiff, Nat.reduceAdd, Nat.reduceMul, Nat.reduceSub, Nat.reduceBEq, ↓reduceIte, bne_self_eq_false, Bool.and_false, Bool.false_and, Bool.true_or, Bool.false_or, hT, d2, d3, d4, d5]) | (refine call_of (cT) ?_ ?_; (first | rfl | simp only [go_sem, List.getElem?_toArray, str_beq, reduceCtorEq, Nat.reduceEqDiff, Nat.reduceLT, Nat.reduceLeDiff, Nat.reduceAdd, Nat.reduceMul, Nat.reduceSub, Nat.reduceBEq, ↓reduceIte, bne_self_eq_false, Bool.and_false, Bool.false_and, Bool.true_or, Bool.false_or, hT, d2, d3, d4, d5, shut_col]); simp only [go_sem, List.getElem?_toArray, str_beq, reduceCtorEq, Nat.reduceEqDiff, Nat.reduceLT, Nat.reduceLeDiff, Nat.reduceAdd, Nat.reduceMul, Nat.reduceSub, Nat.reduceBEq, ↓reduceIte, bne_self_eq_false, Bool.and_false, Bool.false_and, Bool.true_or, Bool.false_or, hT, d2, d3, d4, d5]) | refine k_of (by assumption) ?_ | refine tr_block ?_ | refine tr_scope ?_ | (refine tr_skip ?_; try simp only [ex_seq, ex_block]) | (refine tr_label ?_; try simp only [ex_seq, ex_block]) | (refine tr_exit ?_; try simp only [ex_seq_exit, ex_block_exit, Nat.reduceEqDiff, if_true, if_false, ex_seq, ex_block, reduceCtorEq, ↓reduceIte]) | (refine tr_ret ?_; try simp only [ex_seq_ret, ex_block_ret]))
            refine tr_cond rfl (fun ht => ?_) (fun hf => ?_)
            · cases ht
            · repeat (first | refine tr_seq_k fun _ _ => ?_ | (refine tr_region ?_; simp only [go_sem, List.getElem?_toArray, str_beq, reduceCtorEq, Nat.reduceEqDiff, Nat.reduceLT, Nat.reduceLeDiff, Nat.reduceAdd, Nat.reduceMul, Nat.reduceSub, Nat.reduceBEq, ↓reduceIte, bne_self_eq_false, Bool.and_false, Bool.false_and, Bool.true_or, Bool.false_or]) | refine k_of (by assumption) ?_ | refine tr_block ?_ | refine tr_scope ?_ | (refine tr_skip ?_; try simp only [ex_seq, ex_block]) | (refine tr_label ?_; try simp only [ex_seq, ex_block]) | (refine tr_exit ?_; try simp only [ex_seq_exit, ex_block_exit, Nat.reduceEqDiff, if_true, if_false, ex_seq, ex_block, reduceCtorEq, ↓reduceIte]) | (refine tr_ret ?_; try simp only [ex_seq_ret, ex_block_ret]))
              refine tr_loop_k (σ := Nat) (fun k => [(1, .ptr 0 0), (3, iA k)]) (fun _ => ⟨[⟨false, [.c (slC stC p.e1 p.prin), .c (slC prC p.e2 p.preds), .c (slC clC p.e3 p.clears), iA p.quota, iA p.budget, .c (slC ruC p.e4 p.rules), .c (slC grC p.e5 p.grants)]⟩], []⟩) (fun k => k ≤ p.preds.length ∧ ∀ (j : Nat) (hj : j < p.preds.length), j < k → gPr p.preds[j] = true) (fun k => p.preds.length - k) 0 ⟨Nat.zero_le _, fun _ _ h => absurd h (Nat.not_lt_zero _)⟩ ⟨rfl, rfl, trivial⟩ rfl ?_
              rintro k ⟨hkk, hok⟩ K hK
              by_cases hkl : k < p.preds.length
              · have e1 : decide ((k : Int) < (p.preds.length : Nat)) = true := decide_eq_true (by omega)
                have ix := idxP (ex := p.e2) hkl
                have ws := wrap_succ (show k ≤ 1000000000 by have := of_decide_eq_false d2; omega)
                have hbad := fun h => all_bad (g := gPr) hkl h
                have hnext := fun h => next_ok (g := gPr) hok hkl h
                generalize p.preds[k] = x at *
                cases h1 : decide ((x.name.size : Int) > 300) with
                | true =>
                  have hr : lightP p = false := by
                    have hg : gPr x = false := by simp [gPr, h1]
                    simp [lightP, hbad hg]
                  rw [hr] at hQ
                  repeat (first | refine tr_seq_k fun _ _ => ?_ | (refine tr_region ?_; simp only [go_sem, List.getElem?_toArray, str_beq, reduceCtorEq, Nat.reduceEqDiff, Nat.reduceLT, Nat.reduceLeDiff, Nat.reduceAdd, Nat.reduceMul, Nat.reduceSub, Nat.reduceBEq, ↓reduceIte, bne_self_eq_false, Bool.and_false, Bool.false_and, Bool.true_or, Bool.false_or, e1]) | refine k_of (by assumption) ?_ | refine tr_block ?_ | refine tr_scope ?_ | (refine tr_skip ?_; try simp only [ex_seq, ex_block]) | (refine tr_label ?_; try simp only [ex_seq, ex_block]) | (refine tr_exit ?_; try simp only [ex_seq_exit, ex_block_exit, Nat.reduceEqDiff, if_true, if_false, ex_seq, ex_block, reduceCtorEq, ↓reduceIte]) | (refine tr_ret ?_; try simp only [ex_seq_ret, ex_block_ret]))
                  refine tr_cond rfl (fun ht => ?_) (fun hf => ?_)
                  · repeat (first | refine tr_seq_k fun _ _ => ?_ | (refine tr_region ?_; simp only [go_sem, List.getElem?_toArray, str_beq, reduceCtorEq, Nat.reduceEqDiff, Nat.reduceLT, Nat.reduceLeDiff, Nat.reduceAdd, Nat.reduceMul, Nat.reduceSub, Nat.reduceBEq, ↓reduceIte, bne_self_eq_false, Bool.and_false, Bool.false_and, Bool.true_or, Bool.false_or, ix, h1]) | refine k_of (by assumption) ?_ | refine tr_block ?_ | refine tr_scope ?_ | (refine tr_skip ?_; try simp only [ex_seq, ex_block]) | (refine tr_label ?_; try simp only [ex_seq, ex_block]) | (refine tr_exit ?_; try simp only [ex_seq_exit, ex_block_exit, Nat.reduceEqDiff, if_true, if_false, ex_seq, ex_block, reduceCtorEq, ↓reduceIte]) | (refine tr_ret ?_; try simp only [ex_seq_ret, ex_block_ret]))
                    refine tr_cond rfl (fun ht => ?_) (fun hf => ?_)
                    · repeat (first | refine tr_seq_k fun _ _ => ?_ | (refine tr_region ?_; simp only [go_sem, List.getElem?_toArray, str_beq, reduceCtorEq, Nat.reduceEqDiff, Nat.reduceLT, Nat.reduceLeDiff, Nat.reduceAdd, Nat.reduceMul, Nat.reduceSub, Nat.reduceBEq, ↓reduceIte, bne_self_eq_false, Bool.and_false, Bool.false_and, Bool.true_or, Bool.false_or]) | refine k_of (by assumption) ?_ | refine tr_block ?_ | refine tr_scope ?_ | (refine tr_skip ?_; try simp only [ex_seq, ex_block]) | (refine tr_label ?_; try simp only [ex_seq, ex_block]) | (refine tr_exit ?_; try simp only [ex_seq_exit, ex_block_exit, Nat.reduceEqDiff, if_true, if_false, ex_seq, ex_block, reduceCtorEq, ↓reduceIte]) | (refine tr_ret ?_; try simp only [ex_seq_ret, ex_block_ret]))
                      refine (hQ _ _ [bA false] ?_ (fun m => ?_)).2 <;> simp only [go_sem, List.getElem?_toArray, str_beq, reduceCtorEq, Nat.reduceEqDiff, Nat.reduceLT, Nat.reduceLeDiff, Nat.reduceAdd, Nat.reduceMul, Nat.reduceSub, Nat.reduceBEq, ↓reduceIte, bne_self_eq_false, Bool.and_false, Bool.false_and, Bool.true_or, Bool.false_or, Tryd.f12,]
                    · cases hf
                  · cases hf
                | false =>
                  have hg : gPr x = true := by simp [gPr, h1]
                  repeat (first | refine tr_seq_k fun _ _ => ?_ | (refine tr_region ?_; simp only [go_sem, List.getElem?_toArray, str_beq, reduceCtorEq, Nat.reduceEqDiff, Nat.reduceLT, Nat.reduceLeDiff, Nat.reduceAdd, Nat.reduceMul, Nat.reduceSub, Nat.reduceBEq, ↓reduceIte, bne_self_eq_false, Bool.and_false, Bool.false_and, Bool.true_or, Bool.false_or, e1]) | refine k_of (by assumption) ?_ | refine tr_block ?_ | refine tr_scope ?_ | (refine tr_skip ?_; try simp only [ex_seq, ex_block]) | (refine tr_label ?_; try simp only [ex_seq, ex_block]) | (refine tr_exit ?_; try simp only [ex_seq_exit, ex_block_exit, Nat.reduceEqDiff, if_true, if_false, ex_seq, ex_block, reduceCtorEq, ↓reduceIte]) | (refine tr_ret ?_; try simp only [ex_seq_ret, ex_block_ret]))
                  refine tr_cond rfl (fun ht => ?_) (fun hf => ?_)
                  · repeat (first | refine tr_seq_k fun _ _ => ?_ | (refine tr_region ?_; simp only [go_sem, List.getElem?_toArray, str_beq, reduceCtorEq, Nat.reduceEqDiff, Nat.reduceLT, Nat.reduceLeDiff, Nat.reduceAdd, Nat.reduceMul, Nat.reduceSub, Nat.reduceBEq, ↓reduceIte, bne_self_eq_false, Bool.and_false, Bool.false_and, Bool.true_or, Bool.false_or, ix, h1]) | refine k_of (by assumption) ?_ | refine tr_block ?_ | refine tr_scope ?_ | (refine tr_skip ?_; try simp only [ex_seq, ex_block]) | (refine tr_label ?_; try simp only [ex_seq, ex_block]) | (refine tr_exit ?_; try simp only [ex_seq_exit, ex_block_exit, Nat.reduceEqDiff, if_true, if_false, ex_seq, ex_block, reduceCtorEq, ↓reduceIte]) | (refine tr_ret ?_; try simp only [ex_seq_ret, ex_block_ret]))
                    refine tr_cond rfl (fun ht => ?_) (fun hf => ?_)
                    · cases ht
                    · repeat (first | refine tr_seq_k fun _ _ => ?_ | (refine tr_region ?_; simp only [go_sem, List.getElem?_toArray, str_beq, reduceCtorEq, Nat.reduceEqDiff, Nat.reduceLT, Nat.reduceLeDiff, Nat.reduceAdd, Nat.reduceMul, Nat.reduceSub, Nat.reduceBEq, ↓reduceIte, bne_self_eq_false, Bool.and_false, Bool.false_and, Bool.true_or, Bool.false_or, ws]) | refine k_of (by assumption) ?_ | refine tr_block ?_ | refine tr_scope ?_ | (refine tr_skip ?_; try simp only [ex_seq, ex_block]) | (refine tr_label ?_; try simp only [ex_seq, ex_block]) | (refine tr_exit ?_; try simp only [ex_seq_exit, ex_block_exit, Nat.reduceEqDiff, if_true, if_false, ex_seq, ex_block, reduceCtorEq, ↓reduceIte]) | (refine tr_ret ?_; try simp only [ex_seq_ret, ex_block_ret]))
                      exact hK (k + 1) _ _ ⟨hkl, hnext hg⟩ ⟨⟨rfl, rfl, trivial⟩, Keep.refl _, rfl, rfl, Nat.le_refl _, Nat.le_refl _⟩ (by omega)
                  · cases hf
              · have e1 : decide ((k : Int) < (p.preds.length : Nat)) = false := decide_eq_false (by omega)
                have hA0 : p.preds.all gPr = true := all_ok fun j hj => hok j hj (by omega)
                repeat (first | refine tr_seq_k fun _ _ => ?_ | (refine tr_region ?_; simp only [go_sem, List.getElem?_toArray, str_beq, reduceCtorEq, Nat.reduceEqDiff, Nat.reduceLT, Nat.reduceLeDiff, Nat.reduceAdd, Nat.reduceMul, Nat.reduceSub, Nat.reduceBEq, ↓reduceIte, bne_self_eq_false, Bool.and_false, Bool.false_and, Bool.true_or, Bool.false_or, e1]) | refine k_of (by assumption) ?_ | refine tr_block ?_ | refine tr_scope ?_ | (refine tr_skip ?_; try simp only [ex_seq, ex_block]) | (refine tr_label ?_; try simp only [ex_seq, ex_block]) | (refine tr_exit ?_; try simp only [ex_seq_exit, ex_block_exit, Nat.reduceEqDiff, if_true, if_false, ex_seq, ex_block, reduceCtorEq, ↓reduceIte]) | (refine tr_ret ?_; try simp only [ex_seq_ret, ex_block_ret]))
                refine tr_cond rfl (fun ht => ?_) (fun hf => ?_)
                · cases ht
                · repeat (first | refine tr_seq_k fun _ _ => ?_ | (refine tr_region ?_; simp only [go_sem, List.getElem?_toArray, str_beq, reduceCtorEq, Nat.reduceEqDiff, Nat.reduceLT, Nat.reduceLeDiff, Nat.reduceAdd, Nat.reduceMul, Nat.reduceSub, Nat.reduceBEq, ↓reduceIte, bne_self_eq_false, Bool.and_false, Bool.false_and, Bool.true_or, Bool.false_or]) | refine k_of (by assumption) ?_ | refine tr_block ?_ | refine tr_scope ?_ | (refine tr_skip ?_; try simp only [ex_seq, ex_block]) | (refine tr_label ?_; try simp only [ex_seq, ex_block]) | (refine tr_exit ?_; try simp only [ex_seq_exit, ex_block_exit, Nat.reduceEqDiff, if_true, if_false, ex_seq, ex_block, reduceCtorEq, ↓reduceIte]) | (refine tr_ret ?_; try simp only [ex_seq_ret, ex_block_ret]))
                  refine tr_loop_k (σ := Nat) (fun k => [(1, .ptr 0 0), (4, iA k)]) (fun _ => ⟨[⟨false, [.c (slC stC p.e1 p.prin), .c (slC prC p.e2 p.preds), .c (slC clC p.e3 p.clears), iA p.quota, iA p.budget, .c (slC ruC p.e4 p.rules), .c (slC grC p.e5 p.grants)]⟩], []⟩) (fun k => k ≤ p.clears.length ∧ ∀ (j : Nat) (hj : j < p.clears.length), j < k → gCl p.clears[j] = true) (fun k => p.clears.length - k) 0 ⟨Nat.zero_le _, fun _ _ h => absurd h (Nat.not_lt_zero _)⟩ ⟨rfl, rfl, trivial⟩ rfl ?_
                  rintro k ⟨hkk, hok⟩ K hK
                  by_cases hkl : k < p.clears.length
                  · have e1 : decide ((k : Int) < (p.clears.length : Nat)) = true := decide_eq_true (by omega)
                    have ix := idxC (ex := p.e3) hkl
                    have ws := wrap_succ (show k ≤ 1000000000 by have := of_decide_eq_false d3; omega)
                    have hbad := fun h => all_bad (g := gCl) hkl h
                    have hnext := fun h => next_ok (g := gCl) hok hkl h
                    generalize p.clears[k] = x at *
                    cases h1 : decide ((x.who.size : Int) > 300) with
                    | true =>
                      have hr : lightP p = false := by
                        have hg : gCl x = false := by simp [gCl, h1]
                        simp [lightP, hbad hg]
                      rw [hr] at hQ
                      repeat (first | refine tr_seq_k fun _ _ => ?_ | (refine tr_region ?_; simp only [go_sem, List.getElem?_toArray, str_beq, reduceCtorEq, Nat.reduceEqDiff, Nat.reduceLT, Nat.reduceLeDiff, Nat.reduceAdd, Nat.reduceMul, Nat.reduceSub, Nat.reduceBEq, ↓reduceIte, bne_self_eq_false, Bool.and_false, Bool.false_and, Bool.true_or, Bool.false_or, e1]) | refine k_of (by assumption) ?_ | refine tr_block ?_ | refine tr_scope ?_ | (refine tr_skip ?_; try simp only [ex_seq, ex_block]) | (refine tr_label ?_; try simp only [ex_seq, ex_block]) | (refine tr_exit ?_; try simp only [ex_seq_exit, ex_block_exit, Nat.reduceEqDiff, if_true, if_false, ex_seq, ex_block, reduceCtorEq, ↓reduceIte]) | (refine tr_ret ?_; try simp only [ex_seq_ret, ex_block_ret]))
                      refine tr_cond rfl (fun ht => ?_) (fun hf => ?_)
                      · repeat (first | refine tr_seq_k fun _ _ => ?_ | (refine tr_region ?_; simp only [go_sem, List.getElem?_toArray, str_beq, reduceCtorEq, Nat.reduceEqDiff, Nat.reduceLT, Nat.reduceLeDiff, Nat.reduceAdd, Nat.reduceMul, Nat.reduceSub, Nat.reduceBEq, ↓reduceIte, bne_self_eq_false, Bool.and_false, Bool.false_and, Bool.true_or, Bool.false_or, ix, h1]) | (refine call_of (lightTexts_does x.reads 40 3000 x.ex (by decide)) ?_ ?_; (first | rfl | simp only [go_sem, List.getElem?_toArray, str_beq, reduceCtorEq, Nat.reduceEqDiff, Nat.reduceLT, Nat.reduceLeDiff, Nat.reduceAdd, Nat.reduceMul, Nat.reduceSub, Nat.reduceBEq, ↓reduceIte, bne_self_eq_false, Bool.and_false, Bool.false_and, Bool.true_or, Bool.false_or, ix, h1, shut_col]); simp only [go_sem, List.getElem?_toArray, str_beq, reduceCtorEq, Nat.reduceEqDiff, Nat.reduceLT, Nat.reduceLeDiff, Nat.reduceAdd, Nat.reduceMul, Nat.reduceSub, Nat.reduceBEq, ↓reduceIte, bne_self_eq_false, Bool.and_false, Bool.false_and, Bool.true_or, Bool.false_or, ix, h1]) | refine k_of (by assumption) ?_ | refine tr_block ?_ | refine tr_scope ?_ | (refine tr_skip ?_; try simp only [ex_seq, ex_block]) | (refine tr_label ?_; try simp only [ex_seq, ex_block]) | (refine tr_exit ?_; try simp only [ex_seq_exit, ex_block_exit, Nat.reduceEqDiff, if_true, if_false, ex_seq, ex_block, reduceCtorEq, ↓reduceIte]) | (refine tr_ret ?_; try simp only [ex_seq_ret, ex_block_ret]))
                        refine tr_cond rfl (fun ht => ?_) (fun hf => ?_)
                        · repeat (first | refine tr_seq_k fun _ _ => ?_ | (refine tr_region ?_; simp only [go_sem, List.getElem?_toArray, str_beq, reduceCtorEq, Nat.reduceEqDiff, Nat.reduceLT, Nat.reduceLeDiff, Nat.reduceAdd, Nat.reduceMul, Nat.reduceSub, Nat.reduceBEq, ↓reduceIte, bne_self_eq_false, Bool.and_false, Bool.false_and, Bool.true_or, Bool.false_or]) | refine k_of (by assumption) ?_ | refine tr_block ?_ | refine tr_scope ?_ | (refine tr_skip ?_; try simp only [ex_seq, ex_block]) | (refine tr_label ?_; try simp only [ex_seq, ex_block]) | (refine tr_exit ?_; try simp only [ex_seq_exit, ex_block_exit, Nat.reduceEqDiff, if_true, if_false, ex_seq, ex_block, reduceCtorEq, ↓reduceIte]) | (refine tr_ret ?_; try simp only [ex_seq_ret, ex_block_ret]))
                          refine (hQ _ _ [bA false] ?_ (fun m => ?_)).2 <;> simp only [go_sem, List.getElem?_toArray, str_beq, reduceCtorEq, Nat.reduceEqDiff, Nat.reduceLT, Nat.reduceLeDiff, Nat.reduceAdd, Nat.reduceMul, Nat.reduceSub, Nat.reduceBEq, ↓reduceIte, bne_self_eq_false, Bool.and_false, Bool.false_and, Bool.true_or, Bool.false_or, Tryd.f12,]
                        · cases hf
                      · cases hf
                    | false =>
                      cases h2 : lightTx x.reads 40 3000 with
                      | false =>
                        have hr : lightP p = false := by
                          have hg : gCl x = false := by simp [gCl, h1, h2]
                          simp [lightP, hbad hg]
                        rw [hr] at hQ
                        repeat (first | refine tr_seq_k fun _ _ => ?_ | (refine tr_region ?_; simp only [go_sem, List.getElem?_toArray, str_beq, reduceCtorEq, Nat.reduceEqDiff, Nat.reduceLT, Nat.reduceLeDiff, Nat.reduceAdd, Nat.reduceMul, Nat.reduceSub, Nat.reduceBEq, ↓reduceIte, bne_self_eq_false, Bool.and_false, Bool.false_and, Bool.true_or, Bool.false_or, e1]) | refine k_of (by assumption) ?_ | refine tr_block ?_ | refine tr_scope ?_ | (refine tr_skip ?_; try simp only [ex_seq, ex_block]) | (refine tr_label ?_; try simp only [ex_seq, ex_block]) | (refine tr_exit ?_; try simp only [ex_seq_exit, ex_block_exit, Nat.reduceEqDiff, if_true, if_false, ex_seq, ex_block, reduceCtorEq, ↓reduceIte]) | (refine tr_ret ?_; try simp only [ex_seq_ret, ex_block_ret]))
                        refine tr_cond rfl (fun ht => ?_) (fun hf => ?_)
                        · repeat (first | refine tr_seq_k fun _ _ => ?_ | (refine tr_region ?_; simp only [go_sem, List.getElem?_toArray, str_beq, reduceCtorEq, Nat.reduceEqDiff, Nat.reduceLT, Nat.reduceLeDiff, Nat.reduceAdd, Nat.reduceMul, Nat.reduceSub, Nat.reduceBEq, ↓reduceIte, bne_self_eq_false, Bool.and_false, Bool.false_and, Bool.true_or, Bool.false_or, ix, h1, h2]) | (refine call_of (lightTexts_does x.reads 40 3000 x.ex (by decide)) ?_ ?_; (first | rfl | simp only [go_sem, List.getElem?_toArray, str_beq, reduceCtorEq, Nat.reduceEqDiff, Nat.reduceLT, Nat.reduceLeDiff, Nat.reduceAdd, Nat.reduceMul, Nat.reduceSub, Nat.reduceBEq, ↓reduceIte, bne_self_eq_false, Bool.and_false, Bool.false_and, Bool.true_or, Bool.false_or, ix, h1, h2, shut_col]); simp only [go_sem, List.getElem?_toArray, str_beq, reduceCtorEq, Nat.reduceEqDiff, Nat.reduceLT, Nat.reduceLeDiff, Nat.reduceAdd, Nat.reduceMul, Nat.reduceSub, Nat.reduceBEq, ↓reduceIte, bne_self_eq_false, Bool.and_false, Bool.false_and, Bool.true_or, Bool.false_or, ix, h1, h2]) | refine k_of (by assumption) ?_ | refine tr_block ?_ | refine tr_scope ?_ | (refine tr_skip ?_; try simp only [ex_seq, ex_block]) | (refine tr_label ?_; try simp only [ex_seq, ex_block]) | (refine tr_exit ?_; try simp only [ex_seq_exit, ex_block_exit, Nat.reduceEqDiff, if_true, if_false, ex_seq, ex_block, reduceCtorEq, ↓reduceIte]) | (refine tr_ret ?_; try simp only [ex_seq_ret, ex_block_ret]))
                          refine tr_cond rfl (fun ht => ?_) (fun hf => ?_)
                          · repeat (first | refine tr_seq_k fun _ _ => ?_ | (refine tr_region ?_; simp only [go_sem, List.getElem?_toArray, str_beq, reduceCtorEq, Nat.reduceEqDiff, Nat.reduceLT, Nat.reduceLeDiff, Nat.reduceAdd, Nat.reduceMul, Nat.reduceSub, Nat.reduceBEq, ↓reduceIte, bne_self_eq_false, Bool.and_false, Bool.false_and, Bool.true_or, Bool.false_or]) | refine k_of (by assumption) ?_ | refine tr_block ?_ | refine tr_scope ?_ | (refine tr_skip ?_; try simp only [ex_seq, ex_block]) | (refine tr_label ?_; try simp only [ex_seq, ex_block]) | (refine tr_exit ?_; try simp only [ex_seq_exit, ex_block_exit, Nat.reduceEqDiff, if_true, if_false, ex_seq, ex_block, reduceCtorEq, ↓reduceIte]) | (refine tr_ret ?_; try simp only [ex_seq_ret, ex_block_ret]))
                            refine (hQ _ _ [bA false] ?_ (fun m => ?_)).2 <;> simp only [go_sem, List.getElem?_toArray, str_beq, reduceCtorEq, Nat.reduceEqDiff, Nat.reduceLT, Nat.reduceLeDiff, Nat.reduceAdd, Nat.reduceMul, Nat.reduceSub, Nat.reduceBEq, ↓reduceIte, bne_self_eq_false, Bool.and_false, Bool.false_and, Bool.true_or, Bool.false_or, Tryd.f12,]
                          · cases hf
                        · cases hf
                      | true =>
                        have hg : gCl x = true := by simp [gCl, h1, h2]
                        repeat (first | refine tr_seq_k fun _ _ => ?_ | (refine tr_region ?_; simp only [go_sem, List.getElem?_toArray, str_beq, reduceCtorEq, Nat.reduceEqDiff, Nat.reduceLT, Nat.reduceLeDiff, Nat.reduceAdd, Nat.reduceMul, Nat.reduceSub, Nat.reduceBEq, ↓reduceIte, bne_self_eq_false, Bool.and_false, Bool.false_and, Bool.true_or, Bool.false_or, e1]) | refine k_of (by assumption) ?_ | refine tr_block ?_ | refine tr_scope ?_ | (refine tr_skip ?_; try simp only [ex_seq, ex_block]) | (refine tr_label ?_; try simp only [ex_seq, ex_block]) | (refine tr_exit ?_; try simp only [ex_seq_exit, ex_block_exit, Nat.reduceEqDiff, if_true, if_false, ex_seq, ex_block, reduceCtorEq, ↓reduceIte]) | (refine tr_ret ?_; try simp only [ex_seq_ret, ex_block_ret]))
                        refine tr_cond rfl (fun ht => ?_) (fun hf => ?_)
                        · repeat (first | refine tr_seq_k fun _ _ => ?_ | (refine tr_region ?_; simp only [go_sem, List.getElem?_toArray, str_beq, reduceCtorEq, Nat.reduceEqDiff, Nat.reduceLT, Nat.reduceLeDiff, Nat.reduceAdd, Nat.reduceMul, Nat.reduceSub, Nat.reduceBEq, ↓reduceIte, bne_self_eq_false, Bool.and_false, Bool.false_and, Bool.true_or, Bool.false_or, ix, h1, h2]) | (refine call_of (lightTexts_does x.reads 40 3000 x.ex (by decide)) ?_ ?_; (first | rfl | simp only [go_sem, List.getElem?_toArray, str_beq, reduceCtorEq, Nat.reduceEqDiff, Nat.reduceLT, Nat.reduceLeDiff, Nat.reduceAdd, Nat.reduceMul, Nat.reduceSub, Nat.reduceBEq, ↓reduceIte, bne_self_eq_false, Bool.and_false, Bool.false_and, Bool.true_or, Bool.false_or, ix, h1, h2, shut_col]); simp only [go_sem, List.getElem?_toArray, str_beq, reduceCtorEq, Nat.reduceEqDiff, Nat.reduceLT, Nat.reduceLeDiff, Nat.reduceAdd, Nat.reduceMul, Nat.reduceSub, Nat.reduceBEq, ↓reduceIte, bne_self_eq_false, Bool.and_false, Bool.false_and, Bool.true_or, Bool.false_or, ix, h1, h2]) | refine k_of (by assumption) ?_ | refine tr_block ?_ | refine tr_scope ?_ | (refine tr_skip ?_; try simp only [ex_seq, ex_block]) | (refine tr_label ?_; try simp only [ex_seq, ex_block]) | (refine tr_exit ?_; try simp only [ex_seq_exit, ex_block_exit, Nat.reduceEqDiff, if_true, if_false, ex_seq, ex_block, reduceCtorEq, ↓reduceIte]) | (refine tr_ret ?_; try simp only [ex_seq_ret, ex_block_ret]))
                          refine tr_cond rfl (fun ht => ?_) (fun hf => ?_)
                          · cases ht
                          · repeat (first | refine tr_seq_k fun _ _ => ?_ | (refine tr_region ?_; simp only [go_sem, List.getElem?_toArray, str_beq, reduceCtorEq, Nat.reduceEqDiff, Nat.reduceLT, Nat.reduceLeDiff, Nat.reduceAdd, Nat.reduceMul, Nat.reduceSub, Nat.reduceBEq, ↓reduceIte, bne_self_eq_false, Bool.and_false, Bool.false_and, Bool.true_or, Bool.false_or, ws]) | refine k_of (by assumption) ?_ | refine tr_block ?_ | refine tr_scope ?_ | (refine tr_skip ?_; try simp only [ex_seq, ex_block]) | (refine tr_label ?_; try simp only [ex_seq, ex_block]) | (refine tr_exit ?_; try simp only [ex_seq_exit, ex_block_exit, Nat.reduceEqDiff, if_true, if_false, ex_seq, ex_block, reduceCtorEq, ↓reduceIte]) | (refine tr_ret ?_; try simp only [ex_seq_ret, ex_block_ret]))
                            exact hK (k + 1) _ _ ⟨hkl, hnext hg⟩ ⟨⟨rfl, rfl, trivial⟩, Keep.refl _, rfl, rfl, Nat.le_refl _, Nat.le_refl _⟩ (by omega)
                        · cases hf
                  · have e1 : decide ((k : Int) < (p.clears.length : Nat)) = false := decide_eq_false (by omega)
                    have hA1 : p.clears.all gCl = true := all_ok fun j hj => hok j hj (by omega)
                    repeat (first | refine tr_seq_k fun _ _ => ?_ | (refine tr_region ?_; simp only [go_sem, List.getElem?_toArray, str_beq, reduceCtorEq, Nat.reduceEqDiff, Nat.reduceLT, Nat.reduceLeDiff, Nat.reduceAdd, Nat.reduceMul, Nat.reduceSub, Nat.reduceBEq, ↓reduceIte, bne_self_eq_false, Bool.and_false, Bool.false_and, Bool.true_or, Bool.false_or, e1]) | refine k_of (by assumption) ?_ | refine tr_block ?_ | refine tr_scope ?_ | (refine tr_skip ?_; try simp only [ex_seq, ex_block]) | (refine tr_label ?_; try simp only [ex_seq, ex_block]) | (refine tr_exit ?_; try simp only [ex_seq_exit, ex_block_exit, Nat.reduceEqDiff, if_true, if_false, ex_seq, ex_block, reduceCtorEq, ↓reduceIte]) | (refine tr_ret ?_; try simp only [ex_seq_ret, ex_block_ret]))
                    refine tr_cond rfl (fun ht => ?_) (fun hf => ?_)
                    · cases ht
                    · repeat (first | refine tr_seq_k fun _ _ => ?_ | (refine tr_region ?_; simp only [go_sem, List.getElem?_toArray, str_beq, reduceCtorEq, Nat.reduceEqDiff, Nat.reduceLT, Nat.reduceLeDiff, Nat.reduceAdd, Nat.reduceMul, Nat.reduceSub, Nat.reduceBEq, ↓reduceIte, bne_self_eq_false, Bool.and_false, Bool.false_and, Bool.true_or, Bool.false_or]) | refine k_of (by assumption) ?_ | refine tr_block ?_ | refine tr_scope ?_ | (refine tr_skip ?_; try simp only [ex_seq, ex_block]) | (refine tr_label ?_; try simp only [ex_seq, ex_block]) | (refine tr_exit ?_; try simp only [ex_seq_exit, ex_block_exit, Nat.reduceEqDiff, if_true, if_false, ex_seq, ex_block, reduceCtorEq, ↓reduceIte]) | (refine tr_ret ?_; try simp only [ex_seq_ret, ex_block_ret]))
                      refine tr_loop_k (σ := Nat) (fun k => [(1, .ptr 0 0), (5, iA k)]) (fun _ => ⟨[⟨false, [.c (slC stC p.e1 p.prin), .c (slC prC p.e2 p.preds), .c (slC clC p.e3 p.clears), iA p.quota, iA p.budget, .c (slC ruC p.e4 p.rules), .c (slC grC p.e5 p.grants)]⟩], []⟩) (fun k => k ≤ p.rules.length ∧ ∀ (j : Nat) (hj : j < p.rules.length), j < k → gRu p.rules[j] = true) (fun k => p.rules.length - k) 0 ⟨Nat.zero_le _, fun _ _ h => absurd h (Nat.not_lt_zero _)⟩ ⟨rfl, rfl, trivial⟩ rfl ?_
                      rintro k ⟨hkk, hok⟩ K hK
                      by_cases hkl : k < p.rules.length
                      · have e1 : decide ((k : Int) < (p.rules.length : Nat)) = true := decide_eq_true (by omega)
                        have ix := idxRu (ex := p.e4) hkl
                        have ws := wrap_succ (show k ≤ 1000000000 by have := of_decide_eq_false d4; omega)
                        have hbad := fun h => all_bad (g := gRu) hkl h
                        have hnext := fun h => next_ok (g := gRu) hok hkl h
                        generalize p.rules[k] = x at *
                        cases h1 : lightA x.head with
                        | false =>
                          have hr : lightP p = false := by
                            have hg : gRu x = false := by simp [gRu, h1]
                            simp [lightP, hbad hg]
                          rw [hr] at hQ
                          repeat (first | refine tr_seq_k fun _ _ => ?_ | (refine tr_region ?_; simp only [go_sem, List.getElem?_toArray, str_beq, reduceCtorEq, Nat.reduceEqDiff, Nat.reduceLT, Nat.reduceLeDiff, Nat.reduceAdd, Nat.reduceMul, Nat.reduceSub, Nat.reduceBEq, ↓reduceIte, bne_self_eq_false, Bool.and_false, Bool.false_and, Bool.true_or, Bool.false_or, e1]) | refine k_of (by assumption) ?_ | refine tr_block ?_ | refine tr_scope ?_ | (refine tr_skip ?_; try simp only [ex_seq, ex_block]) | (refine tr_label ?_; try simp only [ex_seq, ex_block]) | (refine tr_exit ?_; try simp only [ex_seq_exit, ex_block_exit, Nat.reduceEqDiff, if_true, if_false, ex_seq, ex_block, reduceCtorEq, ↓reduceIte]) | (refine tr_ret ?_; try simp only [ex_seq_ret, ex_block_ret]))
                          refine tr_cond rfl (fun ht => ?_) (fun hf => ?_)
                          · repeat (first | refine tr_seq_k fun _ _ => ?_ | (refine tr_region ?_; simp only [go_sem, List.getElem?_toArray, str_beq, reduceCtorEq, Nat.reduceEqDiff, Nat.reduceLT, Nat.reduceLeDiff, Nat.reduceAdd, Nat.reduceMul, Nat.reduceSub, Nat.reduceBEq, ↓reduceIte, bne_self_eq_false, Bool.and_false, Bool.false_and, Bool.true_or, Bool.false_or, ix, h1]) | (refine call_of (lightA_does x.head) ?_ ?_; (first | rfl | simp only [go_sem, List.getElem?_toArray, str_beq, reduceCtorEq, Nat.reduceEqDiff, Nat.reduceLT, Nat.reduceLeDiff, Nat.reduceAdd, Nat.reduceMul, Nat.reduceSub, Nat.reduceBEq, ↓reduceIte, bne_self_eq_false, Bool.and_false, Bool.false_and, Bool.true_or, Bool.false_or, ix, h1, shut_col]); simp only [go_sem, List.getElem?_toArray, str_beq, reduceCtorEq, Nat.reduceEqDiff, Nat.reduceLT, Nat.reduceLeDiff, Nat.reduceAdd, Nat.reduceMul, Nat.reduceSub, Nat.reduceBEq, ↓reduceIte, bne_self_eq_false, Bool.and_false, Bool.false_and, Bool.true_or, Bool.false_or, ix, h1]) | (refine call_of (lightAtoms_does x.body 9 x.ex (by decide)) ?_ ?_; (first | rfl | simp only [go_sem, List.getElem?_toArray, str_beq, reduceCtorEq, Nat.reduceEqDiff, Nat.reduceLT, Nat.reduceLeDiff, Nat.reduceAdd, Nat.reduceMul, Nat.reduceSub, Nat.reduceBEq, ↓reduceIte, bne_self_eq_false, Bool.and_false, Bool.false_and, Bool.true_or, Bool.false_or, ix, h1, shut_col]); simp only [go_sem, List.getElem?_toArray, str_beq, reduceCtorEq, Nat.reduceEqDiff, Nat.reduceLT, Nat.reduceLeDiff, Nat.reduceAdd, Nat.reduceMul, Nat.reduceSub, Nat.reduceBEq, ↓reduceIte, bne_self_eq_false, Bool.and_false, Bool.false_and, Bool.true_or, Bool.false_or, ix, h1]) | refine k_of (by assumption) ?_ | refine tr_block ?_ | refine tr_scope ?_ | (refine tr_skip ?_; try simp only [ex_seq, ex_block]) | (refine tr_label ?_; try simp only [ex_seq, ex_block]) | (refine tr_exit ?_; try simp only [ex_seq_exit, ex_block_exit, Nat.reduceEqDiff, if_true, if_false, ex_seq, ex_block, reduceCtorEq, ↓reduceIte]) | (refine tr_ret ?_; try simp only [ex_seq_ret, ex_block_ret]))
                            refine tr_cond rfl (fun ht => ?_) (fun hf => ?_)
                            · repeat (first | refine tr_seq_k fun _ _ => ?_ | (refine tr_region ?_; simp only [go_sem, List.getElem?_toArray, str_beq, reduceCtorEq, Nat.reduceEqDiff, Nat.reduceLT, Nat.reduceLeDiff, Nat.reduceAdd, Nat.reduceMul, Nat.reduceSub, Nat.reduceBEq, ↓reduceIte, bne_self_eq_false, Bool.and_false, Bool.false_and, Bool.true_or, Bool.false_or]) | refine k_of (by assumption) ?_ | refine tr_block ?_ | refine tr_scope ?_ | (refine tr_skip ?_; try simp only [ex_seq, ex_block]) | (refine tr_label ?_; try simp only [ex_seq, ex_block]) | (refine tr_exit ?_; try simp only [ex_seq_exit, ex_block_exit, Nat.reduceEqDiff, if_true, if_false, ex_seq, ex_block, reduceCtorEq, ↓reduceIte]) | (refine tr_ret ?_; try simp only [ex_seq_ret, ex_block_ret]))
                              refine (hQ _ _ [bA false] ?_ (fun m => ?_)).2 <;> simp only [go_sem, List.getElem?_toArray, str_beq, reduceCtorEq, Nat.reduceEqDiff, Nat.reduceLT, Nat.reduceLeDiff, Nat.reduceAdd, Nat.reduceMul, Nat.reduceSub, Nat.reduceBEq, ↓reduceIte, bne_self_eq_false, Bool.and_false, Bool.false_and, Bool.true_or, Bool.false_or, Tryd.f12,]
                            · cases hf
                          · cases hf
                        | true =>
                          cases h2 : lightAs x.body 9 with
                          | false =>
                            have hr : lightP p = false := by
                              have hg : gRu x = false := by simp [gRu, h1, h2]
                              simp [lightP, hbad hg]
                            rw [hr] at hQ
                            repeat (first | refine tr_seq_k fun _ _ => ?_ | (refine tr_region ?_; simp only [go_sem, List.getElem?_toArray, str_beq, reduceCtorEq, Nat.reduceEqDiff, Nat.reduceLT, Nat.reduceLeDiff, Nat.reduceAdd, Nat.reduceMul, Nat.reduceSub, Nat.reduceBEq, ↓reduceIte, bne_self_eq_false, Bool.and_false, Bool.false_and, Bool.true_or, Bool.false_or, e1]) | refine k_of (by assumption) ?_ | refine tr_block ?_ | refine tr_scope ?_ | (refine tr_skip ?_; try simp only [ex_seq, ex_block]) | (refine tr_label ?_; try simp only [ex_seq, ex_block]) | (refine tr_exit ?_; try simp only [ex_seq_exit, ex_block_exit, Nat.reduceEqDiff, if_true, if_false, ex_seq, ex_block, reduceCtorEq, ↓reduceIte]) | (refine tr_ret ?_; try simp only [ex_seq_ret, ex_block_ret]))
                            refine tr_cond rfl (fun ht => ?_) (fun hf => ?_)
                            · repeat (first | refine tr_seq_k fun _ _ => ?_ | (refine tr_region ?_; simp only [go_sem, List.getElem?_toArray, str_beq, reduceCtorEq, Nat.reduceEqDiff, Nat.reduceLT, Nat.reduceLeDiff, Nat.reduceAdd, Nat.reduceMul, Nat.reduceSub, Nat.reduceBEq, ↓reduceIte, bne_self_eq_false, Bool.and_false, Bool.false_and, Bool.true_or, Bool.false_or, ix, h1, h2]) | (refine call_of (lightA_does x.head) ?_ ?_; (first | rfl | simp only [go_sem, List.getElem?_toArray, str_beq, reduceCtorEq, Nat.reduceEqDiff, Nat.reduceLT, Nat.reduceLeDiff, Nat.reduceAdd, Nat.reduceMul, Nat.reduceSub, Nat.reduceBEq, ↓reduceIte, bne_self_eq_false, Bool.and_false, Bool.false_and, Bool.true_or, Bool.false_or, ix, h1, h2, shut_col]); simp only [go_sem, List.getElem?_toArray, str_beq, reduceCtorEq, Nat.reduceEqDiff, Nat.reduceLT, Nat.reduceLeDiff, Nat.reduceAdd, Nat.reduceMul, Nat.reduceSub, Nat.reduceBEq, ↓reduceIte, bne_self_eq_false, Bool.and_false, Bool.false_and, Bool.true_or, Bool.false_or, ix, h1, h2]) | (refine call_of (lightAtoms_does x.body 9 x.ex (by decide)) ?_ ?_; (first | rfl | simp only [go_sem, List.getElem?_toArray, str_beq, reduceCtorEq, Nat.reduceEqDiff, Nat.reduceLT, Nat.reduceLeDiff, Nat.reduceAdd, Nat.reduceMul, Nat.reduceSub, Nat.reduceBEq, ↓reduceIte, bne_self_eq_false, Bool.and_false, Bool.false_and, Bool.true_or, Bool.false_or, ix, h1, h2, shut_col]); simp only [go_sem, List.getElem?_toArray, str_beq, reduceCtorEq, Nat.reduceEqDiff, Nat.reduceLT, Nat.reduceLeDiff, Nat.reduceAdd, Nat.reduceMul, Nat.reduceSub, Nat.reduceBEq, ↓reduceIte, bne_self_eq_false, Bool.and_false, Bool.false_and, Bool.true_or, Bool.false_or, ix, h1, h2]) | refine k_of (by assumption) ?_ | refine tr_block ?_ | refine tr_scope ?_ | (refine tr_skip ?_; try simp only [ex_seq, ex_block]) | (refine tr_label ?_; try simp only [ex_seq, ex_block]) | (refine tr_exit ?_; try simp only [ex_seq_exit, ex_block_exit, Nat.reduceEqDiff, if_true, if_false, ex_seq, ex_block, reduceCtorEq, ↓reduceIte]) | (refine tr_ret ?_; try simp only [ex_seq_ret, ex_block_ret]))
                              refine tr_cond rfl (fun ht => ?_) (fun hf => ?_)
                              · repeat (first | refine tr_seq_k fun _ _ => ?_ | (refine tr_region ?_; simp only [go_sem, List.getElem?_toArray, str_beq, reduceCtorEq, Nat.reduceEqDiff, Nat.reduceLT, Nat.reduceLeDiff, Nat.reduceAdd, Nat.reduceMul, Nat.reduceSub, Nat.reduceBEq, ↓reduceIte, bne_self_eq_false, Bool.and_false, Bool.false_and, Bool.true_or, Bool.false_or]) | refine k_of (by assumption) ?_ | refine tr_block ?_ | refine tr_scope ?_ | (refine tr_skip ?_; try simp only [ex_seq, ex_block]) | (refine tr_label ?_; try simp only [ex_seq, ex_block]) | (refine tr_exit ?_; try simp only [ex_seq_exit, ex_block_exit, Nat.reduceEqDiff, if_true, if_false, ex_seq, ex_block, reduceCtorEq, ↓reduceIte]) | (refine tr_ret ?_; try simp only [ex_seq_ret, ex_block_ret]))
                                refine (hQ _ _ [bA false] ?_ (fun m => ?_)).2 <;> simp only [go_sem, List.getElem?_toArray, str_beq, reduceCtorEq, Nat.reduceEqDiff, Nat.reduceLT, Nat.reduceLeDiff, Nat.reduceAdd, Nat.reduceMul, Nat.reduceSub, Nat.reduceBEq, ↓reduceIte, bne_self_eq_false, Bool.and_false, Bool.false_and, Bool.true_or, Bool.false_or, Tryd.f12,]
                              · cases hf
                            · cases hf
                          | true =>
                            have hg : gRu x = true := by simp [gRu, h1, h2]
                            repeat (first | refine tr_seq_k fun _ _ => ?_ | (refine tr_region ?_; simp only [go_sem, List.getElem?_toArray, str_beq, reduceCtorEq, Nat.reduceEqDiff, Nat.reduceLT, Nat.reduceLeDiff, Nat.reduceAdd, Nat.reduceMul, Nat.reduceSub, Nat.reduceBEq, ↓reduceIte, bne_self_eq_false, Bool.and_false, Bool.false_and, Bool.true_or, Bool.false_or, e1]) | refine k_of (by assumption) ?_ | refine tr_block ?_ | refine tr_scope ?_ | (refine tr_skip ?_; try simp only [ex_seq, ex_block]) | (refine tr_label ?_; try simp only [ex_seq, ex_block]) | (refine tr_exit ?_; try simp only [ex_seq_exit, ex_block_exit, Nat.reduceEqDiff, if_true, if_false, ex_seq, ex_block, reduceCtorEq, ↓reduceIte]) | (refine tr_ret ?_; try simp only [ex_seq_ret, ex_block_ret]))
                            refine tr_cond rfl (fun ht => ?_) (fun hf => ?_)
                            · repeat (first | refine tr_seq_k fun _ _ => ?_ | (refine tr_region ?_; simp only [go_sem, List.getElem?_toArray, str_beq, reduceCtorEq, Nat.reduceEqDiff, Nat.reduceLT, Nat.reduceLeDiff, Nat.reduceAdd, Nat.reduceMul, Nat.reduceSub, Nat.reduceBEq, ↓reduceIte, bne_self_eq_false, Bool.and_false, Bool.false_and, Bool.true_or, Bool.false_or, ix, h1, h2]) | (refine call_of (lightA_does x.head) ?_ ?_; (first | rfl | simp only [go_sem, List.getElem?_toArray, str_beq, reduceCtorEq, Nat.reduceEqDiff, Nat.reduceLT, Nat.reduceLeDiff, Nat.reduceAdd, Nat.reduceMul, Nat.reduceSub, Nat.reduceBEq, ↓reduceIte, bne_self_eq_false, Bool.and_false, Bool.false_and, Bool.true_or, Bool.false_or, ix, h1, h2, shut_col]); simp only [go_sem, List.getElem?_toArray, str_beq, reduceCtorEq, Nat.reduceEqDiff, Nat.reduceLT, Nat.reduceLeDiff, Nat.reduceAdd, Nat.reduceMul, Nat.reduceSub, Nat.reduceBEq, ↓reduceIte, bne_self_eq_false, Bool.and_false, Bool.false_and, Bool.true_or, Bool.false_or, ix, h1, h2]) | (refine call_of (lightAtoms_does x.body 9 x.ex (by decide)) ?_ ?_; (first | rfl | simp only [go_sem, List.getElem?_toArray, str_beq, reduceCtorEq, Nat.reduceEqDiff, Nat.reduceLT, Nat.reduceLeDiff, Nat.reduceAdd, Nat.reduceMul, Nat.reduceSub, Nat.reduceBEq, ↓reduceIte, bne_self_eq_false, Bool.and_false, Bool.false_and, Bool.true_or, Bool.false_or, ix, h1, h2, shut_col]); simp only [go_sem, List.getElem?_toArray, str_beq, reduceCtorEq, Nat.reduceEqDiff, Nat.reduceLT, Nat.reduceLeDiff, Nat.reduceAdd, Nat.reduceMul, Nat.reduceSub, Nat.reduceBEq, ↓reduceIte, bne_self_eq_false, Bool.and_false, Bool.false_and, Bool.true_or, Bool.false_or, ix, h1, h2]) | refine k_of (by assumption) ?_ | refine tr_block ?_ | refine tr_scope ?_ | (refine tr_skip ?_; try simp only [ex_seq, ex_block]) | (refine tr_label ?_; try simp only [ex_seq, ex_block]) | (refine tr_exit ?_; try simp only [ex_seq_exit, ex_block_exit, Nat.reduceEqDiff, if_true, if_false, ex_seq, ex_block, reduceCtorEq, ↓reduceIte]) | (refine tr_ret ?_; try simp only [ex_seq_ret, ex_block_ret]))
                              refine tr_cond rfl (fun ht => ?_) (fun hf => ?_)
                              · cases ht
                              · repeat (first | refine tr_seq_k fun _ _ => ?_ | (refine tr_region ?_; simp only [go_sem, List.getElem?_toArray, str_beq, reduceCtorEq, Nat.reduceEqDiff, Nat.reduceLT, Nat.reduceLeDiff, Nat.reduceAdd, Nat.reduceMul, Nat.reduceSub, Nat.reduceBEq, ↓reduceIte, bne_self_eq_false, Bool.and_false, Bool.false_and, Bool.true_or, Bool.false_or, ws]) | refine k_of (by assumption) ?_ | refine tr_block ?_ | refine tr_scope ?_ | (refine tr_skip ?_; try simp only [ex_seq, ex_block]) | (refine tr_label ?_; try simp only [ex_seq, ex_block]) | (refine tr_exit ?_; try simp only [ex_seq_exit, ex_block_exit, Nat.reduceEqDiff, if_true, if_false, ex_seq, ex_block, reduceCtorEq, ↓reduceIte]) | (refine tr_ret ?_; try simp only [ex_seq_ret, ex_block_ret]))
                                exact hK (k + 1) _ _ ⟨hkl, hnext hg⟩ ⟨⟨rfl, rfl, trivial⟩, Keep.refl _, rfl, rfl, Nat.le_refl _, Nat.le_refl _⟩ (by omega)
                            · cases hf
                      · have e1 : decide ((k : Int) < (p.rules.length : Nat)) = false := decide_eq_false (by omega)
                        have hA2 : p.rules.all gRu = true := all_ok fun j hj => hok j hj (by omega)
                        repeat (first | refine tr_seq_k fun _ _ => ?_ | (refine tr_region ?_; simp only [go_sem, List.getElem?_toArray, str_beq, reduceCtorEq, Nat.reduceEqDiff, Nat.reduceLT, Nat.reduceLeDiff, Nat.reduceAdd, Nat.reduceMul, Nat.reduceSub, Nat.reduceBEq, ↓reduceIte, bne_self_eq_false, Bool.and_false, Bool.false_and, Bool.true_or, Bool.false_or, e1]) | refine k_of (by assumption) ?_ | refine tr_block ?_ | refine tr_scope ?_ | (refine tr_skip ?_; try simp only [ex_seq, ex_block]) | (refine tr_label ?_; try simp only [ex_seq, ex_block]) | (refine tr_exit ?_; try simp only [ex_seq_exit, ex_block_exit, Nat.reduceEqDiff, if_true, if_false, ex_seq, ex_block, reduceCtorEq, ↓reduceIte]) | (refine tr_ret ?_; try simp only [ex_seq_ret, ex_block_ret]))
                        refine tr_cond rfl (fun ht => ?_) (fun hf => ?_)
                        · cases ht
                        · repeat (first | refine tr_seq_k fun _ _ => ?_ | (refine tr_region ?_; simp only [go_sem, List.getElem?_toArray, str_beq, reduceCtorEq, Nat.reduceEqDiff, Nat.reduceLT, Nat.reduceLeDiff, Nat.reduceAdd, Nat.reduceMul, Nat.reduceSub, Nat.reduceBEq, ↓reduceIte, bne_self_eq_false, Bool.and_false, Bool.false_and, Bool.true_or, Bool.false_or]) | refine k_of (by assumption) ?_ | refine tr_block ?_ | refine tr_scope ?_ | (refine tr_skip ?_; try simp only [ex_seq, ex_block]) | (refine tr_label ?_; try simp only [ex_seq, ex_block]) | (refine tr_exit ?_; try simp only [ex_seq_exit, ex_block_exit, Nat.reduceEqDiff, if_true, if_false, ex_seq, ex_block, reduceCtorEq, ↓reduceIte]) | (refine tr_ret ?_; try simp only [ex_seq_ret, ex_block_ret]))
                          refine tr_loop_k (σ := Nat) (fun k => [(1, .ptr 0 0), (6, iA k)]) (fun _ => ⟨[⟨false, [.c (slC stC p.e1 p.prin), .c (slC prC p.e2 p.preds), .c (slC clC p.e3 p.clears), iA p.quota, iA p.budget, .c (slC ruC p.e4 p.rules), .c (slC grC p.e5 p.grants)]⟩], []⟩) (fun k => k ≤ p.grants.length ∧ ∀ (j : Nat) (hj : j < p.grants.length), j < k → gGr p.grants[j] = true) (fun k => p.grants.length - k) 0 ⟨Nat.zero_le _, fun _ _ h => absurd h (Nat.not_lt_zero _)⟩ ⟨rfl, rfl, trivial⟩ rfl ?_
                          rintro k ⟨hkk, hok⟩ K hK
                          by_cases hkl : k < p.grants.length
                          · have e1 : decide ((k : Int) < (p.grants.length : Nat)) = true := decide_eq_true (by omega)
                            have ix := idxGr (ex := p.e5) hkl
                            have ws := wrap_succ (show k ≤ 1000000000 by have := of_decide_eq_false d5; omega)
                            have hbad := fun h => all_bad (g := gGr) hkl h
                            have hnext := fun h => next_ok (g := gGr) hok hkl h
                            generalize p.grants[k] = x at *
                            cases h1 : decide ((x.tw.size : Int) > 300) with
                            | true =>
                              have hr : lightP p = false := by
                                have hg : gGr x = false := by simp [gGr, h1]
                                simp [lightP, hbad hg]
                              rw [hr] at hQ
                              repeat (first | refine tr_seq_k fun _ _ => ?_ | (refine tr_region ?_; simp only [go_sem, List.getElem?_toArray, str_beq, reduceCtorEq, Nat.reduceEqDiff, Nat.reduceLT, Nat.reduceLeDiff, Nat.reduceAdd, Nat.reduceMul, Nat.reduceSub, Nat.reduceBEq, ↓reduceIte, bne_self_eq_false, Bool.and_false, Bool.false_and, Bool.true_or, Bool.false_or, e1]) | refine k_of (by assumption) ?_ | refine tr_block ?_ | refine tr_scope ?_ | (refine tr_skip ?_; try simp only [ex_seq, ex_block]) | (refine tr_label ?_; try simp only [ex_seq, ex_block]) | (refine tr_exit ?_; try simp only [ex_seq_exit, ex_block_exit, Nat.reduceEqDiff, if_true, if_false, ex_seq, ex_block, reduceCtorEq, ↓reduceIte]) | (refine tr_ret ?_; try simp only [ex_seq_ret, ex_block_ret]))
                              refine tr_cond rfl (fun ht => ?_) (fun hf => ?_)
                              · repeat (first | refine tr_seq_k fun _ _ => ?_ | (refine tr_region ?_; simp only [go_sem, List.getElem?_toArray, str_beq, reduceCtorEq, Nat.reduceEqDiff, Nat.reduceLT, Nat.reduceLeDiff, Nat.reduceAdd, Nat.reduceMul, Nat.reduceSub, Nat.reduceBEq, ↓reduceIte, bne_self_eq_false, Bool.and_false, Bool.false_and, Bool.true_or, Bool.false_or, ix, h1]) | (refine call_of (lightA_does x.head) ?_ ?_; (first | rfl | simp only [go_sem, List.getElem?_toArray, str_beq, reduceCtorEq, Nat.reduceEqDiff, Nat.reduceLT, Nat.reduceLeDiff, Nat.reduceAdd, Nat.reduceMul, Nat.reduceSub, Nat.reduceBEq, ↓reduceIte, bne_self_eq_false, Bool.and_false, Bool.false_and, Bool.true_or, Bool.false_or, ix, h1, shut_col]); simp only [go_sem, List.getElem?_toArray, str_beq, reduceCtorEq, Nat.reduceEqDiff, Nat.reduceLT, Nat.reduceLeDiff, Nat.reduceAdd, Nat.reduceMul, Nat.reduceSub, Nat.reduceBEq, ↓reduceIte, bne_self_eq_false, Bool.and_false, Bool.false_and, Bool.true_or, Bool.false_or, ix, h1]) | (refine call_of (lightAtoms_does x.body 9 x.ex (by decide)) ?_ ?_; (first | rfl | simp only [go_sem, List.getElem?_toArray, str_beq, reduceCtorEq, Nat.reduceEqDiff, Nat.reduceLT, Nat.reduceLeDiff, Nat.reduceAdd, Nat.reduceMul, Nat.reduceSub, Nat.reduceBEq, ↓reduceIte, bne_self_eq_false, Bool.and_false, Bool.false_and, Bool.true_or, Bool.false_or, ix, h1, shut_col]); simp only [go_sem, List.getElem?_toArray, str_beq, reduceCtorEq, Nat.reduceEqDiff, Nat.reduceLT, Nat.reduceLeDiff, Nat.reduceAdd, Nat.reduceMul, Nat.reduceSub, Nat.reduceBEq, ↓reduceIte, bne_self_eq_false, Bool.and_false, Bool.false_and, Bool.true_or, Bool.false_or, ix, h1]) | refine k_of (by assumption) ?_ | refine tr_block ?_ | refine tr_scope ?_ | (refine tr_skip ?_; try simp only [ex_seq, ex_block]) | (refine tr_label ?_; try simp only [ex_seq, ex_block]) | (refine tr_exit ?_; try simp only [ex_seq_exit, ex_block_exit, Nat.reduceEqDiff, if_true, if_false, ex_seq, ex_block, reduceCtorEq, ↓reduceIte]) | (refine tr_ret ?_; try simp only [ex_seq_ret, ex_block_ret]))
                                refine tr_cond rfl (fun ht => ?_) (fun hf => ?_)
                                · repeat (first | refine tr_seq_k fun _ _ => ?_ | (refine tr_region ?_; simp only [go_sem, List.getElem?_toArray, str_beq, reduceCtorEq, Nat.reduceEqDiff, Nat.reduceLT, Nat.reduceLeDiff, Nat.reduceAdd, Nat.reduceMul, Nat.reduceSub, Nat.reduceBEq, ↓reduceIte, bne_self_eq_false, Bool.and_false, Bool.false_and, Bool.true_or, Bool.false_or]) | refine k_of (by assumption) ?_ | refine tr_block ?_ | refine tr_scope ?_ | (refine tr_skip ?_; try simp only [ex_seq, ex_block]) | (refine tr_label ?_; try simp only [ex_seq, ex_block]) | (refine tr_exit ?_; try simp only [ex_seq_exit, ex_block_exit, Nat.reduceEqDiff, if_true, if_false, ex_seq, ex_block, reduceCtorEq, ↓reduceIte]) | (refine tr_ret ?_; try simp only [ex_seq_ret, ex_block_ret]))
                                  refine (hQ _ _ [bA false] ?_ (fun m => ?_)).2 <;> simp only [go_sem, List.getElem?_toArray, str_beq, reduceCtorEq, Nat.reduceEqDiff, Nat.reduceLT, Nat.reduceLeDiff, Nat.reduceAdd, Nat.reduceMul, Nat.reduceSub, Nat.reduceBEq, ↓reduceIte, bne_self_eq_false, Bool.and_false, Bool.false_and, Bool.true_or, Bool.false_or, Tryd.f12,]
                                · cases hf
                              · cases hf
                            | false =>
                              cases h2 : lightA x.head with
                              | false =>
                                have hr : lightP p = false := by
                                  have hg : gGr x = false := by simp [gGr, h1, h2]
                                  simp [lightP, hbad hg]
                                rw [hr] at hQ
                                repeat (first | refine tr_seq_k fun _ _ => ?_ | (refine tr_region ?_; simp only [go_sem, List.getElem?_toArray, str_beq, reduceCtorEq, Nat.reduceEqDiff, Nat.reduceLT, Nat.reduceLeDiff, Nat.reduceAdd, Nat.reduceMul, Nat.reduceSub, Nat.reduceBEq, ↓reduceIte, bne_self_eq_false, Bool.and_false, Bool.false_and, Bool.true_or, Bool.false_or, e1]) | refine k_of (by assumption) ?_ | refine tr_block ?_ | refine tr_scope ?_ | (refine tr_skip ?_; try simp only [ex_seq, ex_block]) | (refine tr_label ?_; try simp only [ex_seq, ex_block]) | (refine tr_exit ?_; try simp only [ex_seq_exit, ex_block_exit, Nat.reduceEqDiff, if_true, if_false, ex_seq, ex_block, reduceCtorEq, ↓reduceIte]) | (refine tr_ret ?_; try simp only [ex_seq_ret, ex_block_ret]))
                                refine tr_cond rfl (fun ht => ?_) (fun hf => ?_)
                                · repeat (first | refine tr_seq_k fun _ _ => ?_ | (refine tr_region ?_; simp only [go_sem, List.getElem?_toArray, str_beq, reduceCtorEq, Nat.reduceEqDiff, Nat.reduceLT, Nat.reduceLeDiff, Nat.reduceAdd, Nat.reduceMul, Nat.reduceSub, Nat.reduceBEq, ↓reduceIte, bne_self_eq_false, Bool.and_false, Bool.false_and, Bool.true_or, Bool.false_or, ix, h1, h2]) | (refine call_of (lightA_does x.head) ?_ ?_; (first | rfl | simp only [go_sem, List.getElem?_toArray, str_beq, reduceCtorEq, Nat.reduceEqDiff, Nat.reduceLT, Nat.reduceLeDiff, Nat.reduceAdd, Nat.reduceMul, Nat.reduceSub, Nat.reduceBEq, ↓reduceIte, bne_self_eq_false, Bool.and_false, Bool.false_and, Bool.true_or, Bool.false_or, ix, h1, h2, shut_col]); simp only [go_sem, List.getElem?_toArray, str_beq, reduceCtorEq, Nat.reduceEqDiff, Nat.reduceLT, Nat.reduceLeDiff, Nat.reduceAdd, Nat.reduceMul, Nat.reduceSub, Nat.reduceBEq, ↓reduceIte, bne_self_eq_false, Bool.and_false, Bool.false_and, Bool.true_or, Bool.false_or, ix, h1, h2]) | (refine call_of (lightAtoms_does x.body 9 x.ex (by decide)) ?_ ?_; (first | rfl | simp only [go_sem, List.getElem?_toArray, str_beq, reduceCtorEq, Nat.reduceEqDiff, Nat.reduceLT, Nat.reduceLeDiff, Nat.reduceAdd, Nat.reduceMul, Nat.reduceSub, Nat.reduceBEq, ↓reduceIte, bne_self_eq_false, Bool.and_false, Bool.false_and, Bool.true_or, Bool.false_or, ix, h1, h2, shut_col]); simp only [go_sem, List.getElem?_toArray, str_beq, reduceCtorEq, Nat.reduceEqDiff, Nat.reduceLT, Nat.reduceLeDiff, Nat.reduceAdd, Nat.reduceMul, Nat.reduceSub, Nat.reduceBEq, ↓reduceIte, bne_self_eq_false, Bool.and_false, Bool.false_and, Bool.true_or, Bool.false_or, ix, h1, h2]) | refine k_of (by assumption) ?_ | refine tr_block ?_ | refine tr_scope ?_ | (refine tr_skip ?_; try simp only [ex_seq, ex_block]) | (refine tr_label ?_; try simp only [ex_seq, ex_block]) | (refine tr_exit ?_; try simp only [ex_seq_exit, ex_block_exit, Nat.reduceEqDiff, if_true, if_false, ex_seq, ex_block, reduceCtorEq, ↓reduceIte]) | (refine tr_ret ?_; try simp only [ex_seq_ret, ex_block_ret]))
                                  refine tr_cond rfl (fun ht => ?_) (fun hf => ?_)
                                  · repeat (first | refine tr_seq_k fun _ _ => ?_ | (refine tr_region ?_; simp only [go_sem, List.getElem?_toArray, str_beq, reduceCtorEq, Nat.reduceEqDiff, Nat.reduceLT, Nat.reduceLeDiff, Nat.reduceAdd, Nat.reduceMul, Nat.reduceSub, Nat.reduceBEq, ↓reduceIte, bne_self_eq_false, Bool.and_false, Bool.false_and, Bool.true_or, Bool.false_or]) | refine k_of (by assumption) ?_ | refine tr_block ?_ | refine tr_scope ?_ | (refine tr_skip ?_; try simp only [ex_seq, ex_block]) | (refine tr_label ?_; try simp only [ex_seq, ex_block]) | (refine tr_exit ?_; try simp only [ex_seq_exit, ex_block_exit, Nat.reduceEqDiff, if_true, if_false, ex_seq, ex_block, reduceCtorEq, ↓reduceIte]) | (refine tr_ret ?_; try simp only [ex_seq_ret, ex_block_ret]))
                                    refine (hQ _ _ [bA false] ?_ (fun m => ?_)).2 <;> simp only [go_sem, List.getElem?_toArray, str_beq, reduceCtorEq, Nat.reduceEqDiff, Nat.reduceLT, Nat.reduceLeDiff, Nat.reduceAdd, Nat.reduceMul, Nat.reduceSub, Nat.reduceBEq, ↓reduceIte, bne_self_eq_false, Bool.and_false, Bool.false_and, Bool.true_or, Bool.false_or, Tryd.f12,]
                                  · cases hf
                                · cases hf
                              | true =>
                                cases h3 : lightAs x.body 9 with
                                | false =>
                                  have hr : lightP p = false := by
                                    have hg : gGr x = false := by simp [gGr, h1, h2, h3]
                                    simp [lightP, hbad hg]
                                  rw [hr] at hQ
                                  repeat (first | refine tr_seq_k fun _ _ => ?_ | (refine tr_region ?_; simp only [go_sem, List.getElem?_toArray, str_beq, reduceCtorEq, Nat.reduceEqDiff, Nat.reduceLT, Nat.reduceLeDiff, Nat.reduceAdd, Nat.reduceMul, Nat.reduceSub, Nat.reduceBEq, ↓reduceIte, bne_self_eq_false, Bool.and_false, Bool.false_and, Bool.true_or, Bool.false_or, e1]) | refine k_of (by assumption) ?_ | refine tr_block ?_ | refine tr_scope ?_ | (refine tr_skip ?_; try simp only [ex_seq, ex_block]) | (refine tr_label ?_; try simp only [ex_seq, ex_block]) | (refine tr_exit ?_; try simp only [ex_seq_exit, ex_block_exit, Nat.reduceEqDiff, if_true, if_false, ex_seq, ex_block, reduceCtorEq, ↓reduceIte]) | (refine tr_ret ?_; try simp only [ex_seq_ret, ex_block_ret]))
                                  refine tr_cond rfl (fun ht => ?_) (fun hf => ?_)
                                  · repeat (first | refine tr_seq_k fun _ _ => ?_ | (refine tr_region ?_; simp only [go_sem, List.getElem?_toArray, str_beq, reduceCtorEq, Nat.reduceEqDiff, Nat.reduceLT, Nat.reduceLeDiff, Nat.reduceAdd, Nat.reduceMul, Nat.reduceSub, Nat.reduceBEq, ↓reduceIte, bne_self_eq_false, Bool.and_false, Bool.false_and, Bool.true_or, Bool.false_or, ix, h1, h2, h3]) | (refine call_of (lightA_does x.head) ?_ ?_; (first | rfl | simp only [go_sem, List.getElem?_toArray, str_beq, reduceCtorEq, Nat.reduceEqDiff, Nat.reduceLT, Nat.reduceLeDiff, Nat.reduceAdd, Nat.reduceMul, Nat.reduceSub, Nat.reduceBEq, ↓reduceIte, bne_self_eq_false, Bool.and_false, Bool.false_and, Bool.true_or, Bool.false_or, ix, h1, h2, h3, shut_col]); simp only [go_sem, List.getElem?_toArray, str_beq, reduceCtorEq, Nat.reduceEqDiff, Nat.reduceLT, Nat.reduceLeDiff, Nat.reduceAdd, Nat.reduceMul, Nat.reduceSub, Nat.reduceBEq, ↓reduceIte, bne_self_eq_false, Bool.and_false, Bool.false_and, Bool.true_or, Bool.false_or, ix, h1, h2, h3]) | (refine call_of (lightAtoms_does x.body 9 x.ex (by decide)) ?_ ?_; (first | rfl | simp only [go_sem, List.getElem?_toArray, str_beq, reduceCtorEq, Nat.reduceEqDiff, Nat.reduceLT, Nat.reduceLeDiff, Nat.reduceAdd, Nat.reduceMul, Nat.reduceSub, Nat.reduceBEq, ↓reduceIte, bne_self_eq_false, Bool.and_false, Bool.false_and, Bool.true_or, Bool.false_or, ix, h1, h2, h3, shut_col]); simp only [go_sem, List.getElem?_toArray, str_beq, reduceCtorEq, Nat.reduceEqDiff, Nat.reduceLT, Nat.reduceLeDiff, Nat.reduceAdd, Nat.reduceMul, Nat.reduceSub, Nat.reduceBEq, ↓reduceIte, bne_self_eq_false, Bool.and_false, Bool.false_and, Bool.true_or, Bool.false_or, ix, h1, h2, h3]) | refine k_of (by assumption) ?_ | refine tr_block ?_ | refine tr_scope ?_ | (refine tr_skip ?_; try simp only [ex_seq, ex_block]) | (refine tr_label ?_; try simp only [ex_seq, ex_block]) | (refine tr_exit ?_; try simp only [ex_seq_exit, ex_block_exit, Nat.reduceEqDiff, if_true, if_false, ex_seq, ex_block, reduceCtorEq, ↓reduceIte]) | (refine tr_ret ?_; try simp only [ex_seq_ret, ex_block_ret]))
                                    refine tr_cond rfl (fun ht => ?_) (fun hf => ?_)
                                    · repeat (first | refine tr_seq_k fun _ _ => ?_ | (refine tr_region ?_; simp only [go_sem, List.getElem?_toArray, str_beq, reduceCtorEq, Nat.reduceEqDiff, Nat.reduceLT, Nat.reduceLeDiff, Nat.reduceAdd, Nat.reduceMul, Nat.reduceSub, Nat.reduceBEq, ↓reduceIte, bne_self_eq_false, Bool.and_false, Bool.false_and, Bool.true_or, Bool.false_or]) | refine k_of (by assumption) ?_ | refine tr_block ?_ | refine tr_scope ?_ | (refine tr_skip ?_; try simp only [ex_seq, ex_block]) | (refine tr_label ?_; try simp only [ex_seq, ex_block]) | (refine tr_exit ?_; try simp only [ex_seq_exit, ex_block_exit, Nat.reduceEqDiff, if_true, if_false, ex_seq, ex_block, reduceCtorEq, ↓reduceIte]) | (refine tr_ret ?_; try simp only [ex_seq_ret, ex_block_ret]))
                                      refine (hQ _ _ [bA false] ?_ (fun m => ?_)).2 <;> simp only [go_sem, List.getElem?_toArray, str_beq, reduceCtorEq, Nat.reduceEqDiff, Nat.reduceLT, Nat.reduceLeDiff, Nat.reduceAdd, Nat.reduceMul, Nat.reduceSub, Nat.reduceBEq, ↓reduceIte, bne_self_eq_false, Bool.and_false, Bool.false_and, Bool.true_or, Bool.false_or, Tryd.f12,]
                                    · cases hf
                                  · cases hf
                                | true =>
                                  have hg : gGr x = true := by simp [gGr, h1, h2, h3]
                                  repeat (first | refine tr_seq_k fun _ _ => ?_ | (refine tr_region ?_; simp only [go_sem, List.getElem?_toArray, str_beq, reduceCtorEq, Nat.reduceEqDiff, Nat.reduceLT, Nat.reduceLeDiff, Nat.reduceAdd, Nat.reduceMul, Nat.reduceSub, Nat.reduceBEq, ↓reduceIte, bne_self_eq_false, Bool.and_false, Bool.false_and, Bool.true_or, Bool.false_or, e1]) | refine k_of (by assumption) ?_ | refine tr_block ?_ | refine tr_scope ?_ | (refine tr_skip ?_; try simp only [ex_seq, ex_block]) | (refine tr_label ?_; try simp only [ex_seq, ex_block]) | (refine tr_exit ?_; try simp only [ex_seq_exit, ex_block_exit, Nat.reduceEqDiff, if_true, if_false, ex_seq, ex_block, reduceCtorEq, ↓reduceIte]) | (refine tr_ret ?_; try simp only [ex_seq_ret, ex_block_ret]))
                                  refine tr_cond rfl (fun ht => ?_) (fun hf => ?_)
                                  · repeat (first | refine tr_seq_k fun _ _ => ?_ | (refine tr_region ?_; simp only [go_sem, List.getElem?_toArray, str_beq, reduceCtorEq, Nat.reduceEqDiff, Nat.reduceLT, Nat.reduceLeDiff, Nat.reduceAdd, Nat.reduceMul, Nat.reduceSub, Nat.reduceBEq, ↓reduceIte, bne_self_eq_false, Bool.and_false, Bool.false_and, Bool.true_or, Bool.false_or, ix, h1, h2, h3]) | (refine call_of (lightA_does x.head) ?_ ?_; (first | rfl | simp only [go_sem, List.getElem?_toArray, str_beq, reduceCtorEq, Nat.reduceEqDiff, Nat.reduceLT, Nat.reduceLeDiff, Nat.reduceAdd, Nat.reduceMul, Nat.reduceSub, Nat.reduceBEq, ↓reduceIte, bne_self_eq_false, Bool.and_false, Bool.false_and, Bool.true_or, Bool.false_or, ix, h1, h2, h3, shut_col]); simp only [go_sem, List.getElem?_toArray, str_beq, reduceCtorEq, Nat.reduceEqDiff, Nat.reduceLT, Nat.reduceLeDiff, Nat.reduceAdd, Nat.reduceMul, Nat.reduceSub, Nat.reduceBEq, ↓reduceIte, bne_self_eq_false, Bool.and_false, Bool.false_and, Bool.true_or, Bool.false_or, ix, h1, h2, h3]) | (refine call_of (lightAtoms_does x.body 9 x.ex (by decide)) ?_ ?_; (first | rfl | simp only [go_sem, List.getElem?_toArray, str_beq, reduceCtorEq, Nat.reduceEqDiff, Nat.reduceLT, Nat.reduceLeDiff, Nat.reduceAdd, Nat.reduceMul, Nat.reduceSub, Nat.reduceBEq, ↓reduceIte, bne_self_eq_false, Bool.and_false, Bool.false_and, Bool.true_or, Bool.false_or, ix, h1, h2, h3, shut_col]); simp only [go_sem, List.getElem?_toArray, str_beq, reduceCtorEq, Nat.reduceEqDiff, Nat.reduceLT, Nat.reduceLeDiff, Nat.reduceAdd, Nat.reduceMul, Nat.reduceSub, Nat.reduceBEq, ↓reduceIte, bne_self_eq_false, Bool.and_false, Bool.false_and, Bool.true_or, Bool.false_or, ix, h1, h2, h3]) | refine k_of (by assumption) ?_ | refine tr_block ?_ | refine tr_scope ?_ | (refine tr_skip ?_; try simp only [ex_seq, ex_block]) | (refine tr_label ?_; try simp only [ex_seq, ex_block]) | (refine tr_exit ?_; try simp only [ex_seq_exit, ex_block_exit, Nat.reduceEqDiff, if_true, if_false, ex_seq, ex_block, reduceCtorEq, ↓reduceIte]) | (refine tr_ret ?_; try simp only [ex_seq_ret, ex_block_ret]))
                                    refine tr_cond rfl (fun ht => ?_) (fun hf => ?_)
                                    · cases ht
                                    · repeat (first | refine tr_seq_k fun _ _ => ?_ | (refine tr_region ?_; simp only [go_sem, List.getElem?_toArray, str_beq, reduceCtorEq, Nat.reduceEqDiff, Nat.reduceLT, Nat.reduceLeDiff, Nat.reduceAdd, Nat.reduceMul, Nat.reduceSub, Nat.reduceBEq, ↓reduceIte, bne_self_eq_false, Bool.and_false, Bool.false_and, Bool.true_or, Bool.false_or, ws]) | refine k_of (by assumption) ?_ | refine tr_block ?_ | refine tr_scope ?_ | (refine tr_skip ?_; try simp only [ex_seq, ex_block]) | (refine tr_label ?_; try simp only [ex_seq, ex_block]) | (refine tr_exit ?_; try simp only [ex_seq_exit, ex_block_exit, Nat.reduceEqDiff, if_true, if_false, ex_seq, ex_block, reduceCtorEq, ↓reduceIte]) | (refine tr_ret ?_; try simp only [ex_seq_ret, ex_block_ret]))
                                      exact hK (k + 1) _ _ ⟨hkl, hnext hg⟩ ⟨⟨rfl, rfl, trivial⟩, Keep.refl _, rfl, rfl, Nat.le_refl _, Nat.le_refl _⟩ (by omega)
                                  · cases hf
                          · have e1 : decide ((k : Int) < (p.grants.length : Nat)) = false := decide_eq_false (by omega)
                            have hA3 : p.grants.all gGr = true := all_ok fun j hj => hok j hj (by omega)
                            repeat (first | refine tr_seq_k fun _ _ => ?_ | (refine tr_region ?_; simp only [go_sem, List.getElem?_toArray, str_beq, reduceCtorEq, Nat.reduceEqDiff, Nat.reduceLT, Nat.reduceLeDiff, Nat.reduceAdd, Nat.reduceMul, Nat.reduceSub, Nat.reduceBEq, ↓reduceIte, bne_self_eq_false, Bool.and_false, Bool.false_and, Bool.true_or, Bool.false_or, e1]) | refine k_of (by assumption) ?_ | refine tr_block ?_ | refine tr_scope ?_ | (refine tr_skip ?_; try simp only [ex_seq, ex_block]) | (refine tr_label ?_; try simp only [ex_seq, ex_block]) | (refine tr_exit ?_; try simp only [ex_seq_exit, ex_block_exit, Nat.reduceEqDiff, if_true, if_false, ex_seq, ex_block, reduceCtorEq, ↓reduceIte]) | (refine tr_ret ?_; try simp only [ex_seq_ret, ex_block_ret]))
                            refine tr_cond rfl (fun ht => ?_) (fun hf => ?_)
                            · cases ht
                            · repeat (first | refine tr_seq_k fun _ _ => ?_ | (refine tr_region ?_; simp only [go_sem, List.getElem?_toArray, str_beq, reduceCtorEq, Nat.reduceEqDiff, Nat.reduceLT, Nat.reduceLeDiff, Nat.reduceAdd, Nat.reduceMul, Nat.reduceSub, Nat.reduceBEq, ↓reduceIte, bne_self_eq_false, Bool.and_false, Bool.false_and, Bool.true_or, Bool.false_or]) | refine k_of (by assumption) ?_ | refine tr_block ?_ | refine tr_scope ?_ | (refine tr_skip ?_; try simp only [ex_seq, ex_block]) | (refine tr_label ?_; try simp only [ex_seq, ex_block]) | (refine tr_exit ?_; try simp only [ex_seq_exit, ex_block_exit, Nat.reduceEqDiff, if_true, if_false, ex_seq, ex_block, reduceCtorEq, ↓reduceIte]) | (refine tr_ret ?_; try simp only [ex_seq_ret, ex_block_ret]))
                              have hr : lightP p = true := by simp [lightP, hT, d2, d3, d4, d5, hA0, hA1, hA2, hA3]
                              rw [hr] at hQ
                              refine (hQ _ _ [bA true] ?_ (fun m => ?_)).2 <;> simp only [go_sem, List.getElem?_toArray, str_beq, reduceCtorEq, Nat.reduceEqDiff, Nat.reduceLT, Nat.reduceLeDiff, Nat.reduceAdd, Nat.reduceMul, Nat.reduceSub, Nat.reduceBEq, ↓reduceIte, bne_self_eq_false, Bool.and_false, Bool.false_and, Bool.true_or, Bool.false_or, Tryd.f12,]
end Go.Proofs.YtaeehadibckcjaaDoor
namespace Go.Proofs.YtaeehadibckcjaaDoor
open Go.RowKit Go.Vs Go.Vs.Ab
set_option maxRecDepth 100000
set_option maxHeartbeats 4000000
theorem cellsBy : Tryd.prog.cellsOf 5 = 1 := by kernel_rfl
def strM (m : Mm) : AV → Mm
  | .lsl j _ _ _ => { m with hp := m.hp.set j ⟨false, [.dead]⟩ }
  | _ => m
theorem str_gives {m : Mm} {b : Nat} {u : Bool} {c : AV} {o : ByteArray} (hb : m.hp[b]? = some ⟨false, [.bld 81 u c]⟩) (hc : BufIs 5 m c o) :
    GivesW Tryd.prog 38 [.ptr b 0] m (sA o) (strM m c) := by
  refine ⟨callable_of Tryd.func38 (by kernel_rfl), fun X W0 w vs M hr => ?_⟩
  obtain ⟨β, v, g1, g2, g3, g4, g5⟩ := M.bld hb
  have hvs : vs = #[.pointer (some ⟨β, 0, none⟩)] := by
    obtain ⟨x, hv, r1⟩ := reps1 hr
    cases r1 with
    | ptr r1 =>
    rw [g1] at r1
    injection r1 with r1
    subst r1
    exact Array.ext' hv
  subst hvs
  rcases hc with ⟨ho, rfl⟩ | ⟨j, rfl, hj, ho⟩
  · obtain rfl := size0 ho
    cases g4 with
    | c g4 =>
    cases g4
    have hUS := fun (W : World) (q : Option Addr) => Lib.run_unsafeString_none (P := Tryd.prog) W 104 3 9 q
    have c1 : w.drew.cell? ⟨β, 1, none⟩ = some (.slice none 0 0) := by
      have : w.drew.heap[β]? = some (.cells #[bptr u β, .slice none 0 0] 81 (0, 0)) := g3
      rw [Lib.cell_of_heap this]; rfl
    have hSD : (Builtin.unsafeSliceData_ #[77] 104 #[.slice none 0 0]).run Tryd.prog w.drew = .ok (.pointer none) w.drew := rfl
    have HM := Lib.hid (M.drew)
    clear M g5 g3
    go_enter Tryd.func38, Tryd.ntmps38
    go_wp2
    go_region
    all_goals (go_wp2; go_ret; exact ⟨_, X, rfl, Mem.Le.refl _ _, .c (.v rfl), HM.out⟩)
  · cases g4 with
    | lsl hl hoff hn hcap hrm =>
    rename_i γ off cap
    have hoff := hoff (by omega)
    rw [Nat.zero_mul] at hoff
    subst hoff
    obtain ⟨γ', arr, k1, k2, e1, e2, e3, e5⟩ := M.byt hj
    rw [hl] at k1
    injection k1 with k1
    subst k1
    have hlt : j < m.hp.length := (List.getElem?_eq_some_iff.1 hj).1
    have htake : ∀ (q : Nat) (x : UInt8), o.data.toList[q]? = some x → w.drew.cell? ((⟨γ, 0, none⟩ : Addr).add q) = some (.int .u8 x.toNat) := fun q x hx => by
      rw [add_none, Nat.zero_add]
      have hq : (Lib.strCells o)[q]? = some (.int .u8 x.toNat) := by
        simp [Lib.strCells, List.getElem?_map, hx]
      rw [← e3, List.getElem?_take] at hq
      split at hq
      · exact cell_of_heap (w := w.drew) (t := 5) (f := (0, 0)) e1 (by simpa using hq)
      · cases hq
    have hsz : o.data.toList.length = o.size := by rw [Array.length_toList]; rfl
    have hne : o.data.toList ≠ [] := fun e => by rw [e] at hsz; simp at hsz; omega
    have c1 : w.drew.cell? ⟨β, 1, none⟩ = some (.slice (some ⟨γ, 0, none⟩) o.size cap) := by
      have : w.drew.heap[β]? = some (.cells #[bptr u β, .slice (some ⟨γ, 0, none⟩) o.size cap] 81 (0, 0)) := g3
      rw [Lib.cell_of_heap this]; rfl
    have hSD : (Builtin.unsafeSliceData_ #[77] 104 #[.slice (some ⟨γ, 0, none⟩) o.size cap]).run Tryd.prog w.drew = .ok (.pointer (some ⟨γ, 0, none⟩)) w.drew :=
      Lib.run_unsafeSliceData_row _ _ _ _ _ _ (by omega)
    have hUS : (Builtin.unsafeString_ #[104, 3] 9 #[.pointer (some ⟨γ, 0, none⟩), .int .i64 o.size]).run Tryd.prog w.drew = .ok (.string o) (w.drew.freeze ⟨γ, 0, none⟩ o.size) := by
      have h := Lib.run_unsafeString_row (P := Tryd.prog) w.drew 104 3 9 5 Tryd.underlying104 cellsBy γ arr.size (by
        have e1' : w.drew.heap[γ]? = some (.cells arr 5 (0, 0)) := e1
        simp [World.shape?, e1']) o.data.toList hne (by omega) (by have := hcap; unfold maxLen at this; omega) htake
      rw [hsz] at h
      exact h
    have hne0 : o.size ≠ 0 := by omega
    have hfz : (w.drew.freeze ⟨γ, 0, none⟩ o.size).heap[γ]? = some (.cells arr 5 (0, 0 + o.size)) := by
      have e1' : w.drew.heap[γ]? = some (.cells arr 5 (0, 0)) := e1
      simp [World.freeze, hne0, Array.getElem?_modify, e1']
    have hlocs : ∀ i bi, X.loc i = some γ → (m.hp.set j ⟨false, [.dead]⟩)[i]? = some bi → bi.isDead := fun i bi h1 h2 => by
      by_cases hji : i = j
      · subst hji
        rw [List.getElem?_set_self hlt] at h2
        injection h2 with h2
        rw [← h2]; rfl
      · rw [List.getElem?_set_ne (Ne.symm hji)] at h2
        exact M.alone' h1 hl h2 hj byt_alive hji
    have hown : ∀ k T, X.own k = some T → T.g ≠ γ := fun k T h e => by
      have hk := M.odom k T h
      obtain ⟨T', q1, _, _, _, _, _, _, _, q10⟩ := M.toks k m.hw[k] (List.getElem?_eq_getElem hk)
      rw [h] at q1
      injection q1 with q1
      subst q1
      exact q10 j (e ▸ hl)
    have M2 := (M.drew.kill hlt).deadFreeze (n := 0) (w' := w.drew.freeze ⟨γ, 0, none⟩ o.size) (z := (0, 0)) k2 e1 e5 hlocs hown hfz (fun g hg => by
      simp only [World.freeze, hne0, if_false, Array.getElem?_modify]
      rw [if_neg (fun e => hg e.symm)]) (by simp [World.freeze, hne0]) (by simp [World.freeze, hne0])
    have HM := Lib.hid M2
    clear M M2 g5 g3 hfz hlocs hown e1 e2 e3 e5 htake
    go_enter Tryd.func38, Tryd.ntmps38
    go_wp2
    go_region
    all_goals (go_wp2; go_ret; exact ⟨_, X, rfl, Mem.Le.refl _ _, .c (.v rfl), HM.out⟩)
/-! ### a page -/
structure PgM (m : Mm) (b : Nat) (o : ByteArray) : Prop where
  at_ : ∃ u c, m.hp[b]? = some ⟨false, [.bld 81 u c]⟩ ∧ BufIs 5 m c o ∧ low m.hp.length m.hw.length c = true
  wf : lowB m.hp.length m.hw.length m.hp = true
structure KpP (m m' : Mm) : Prop where
  hw : m'.hw = m.hw
  len : m.hp.length ≤ m'.hp.length
  old : ∀ (i : Nat) (blk : Blk), plainB blk.cs = true → m.hp[i]? = some blk → m'.hp[i]? = some blk
theorem KpP.refl (m : Mm) : KpP m m := ⟨rfl, Nat.le_refl _, fun _ _ _ h => h⟩
theorem KpP.trans {m1 m2 m3 : Mm} (h : KpP m1 m2) (k : KpP m2 m3) : KpP m1 m3 := ⟨k.hw.trans h.hw, Nat.le_trans h.len k.len, fun i blk hp hi => k.old i blk hp (h.old i blk hp hi)⟩
theorem PgM.lt {m : Mm} {b : Nat} {o : ByteArray} (h : PgM m b o) : b < m.hp.length := by
  obtain ⟨u, c, h1, _⟩ := h.at_
  exact (List.getElem?_eq_some_iff.1 h1).1
theorem bufIs_low {e : TypeId} {m : Mm} {c : AV} {o : ByteArray} (h : BufIs e m c o) : low m.hp.length m.hw.length c = true := by
  rcases h with ⟨_, rfl⟩ | ⟨j, rfl, hj, _⟩
  · rfl
  · simp only [low, Nat.blt_eq]
    exact (List.getElem?_eq_some_iff.1 hj).1
theorem ws_page {m : Mm} {b : Nat} {o : ByteArray} (h : PgM m b o) (s : ByteArray) (hlen : o.size + s.size ≤ 140737488355328) :
    ∃ m', GivesW Tryd.prog 69 [.ptr b 0, sA s] m (.tup [iA (s.size : Nat), .c (.v .nilIface)]) m' ∧ PgM m' b (o ++ s) ∧ KpP m m' := by
  obtain ⟨u, c, hb, hc, hlow⟩ := h.at_
  refine ⟨_, ws_gives hb hc s hlen, ?_⟩
  have hblt := (List.getElem?_eq_some_iff.1 hb).1
  unfold wsM
  obtain ⟨m1, hm1⟩ : ∃ m1 : Mm, m1 = { m with hp := m.hp.set b ⟨false, [.bld 81 true c]⟩ } := ⟨_, rfl⟩
  have hb1 : m1.hp[b]? = some ⟨false, [.bld 81 true c]⟩ := by rw [hm1]; exact List.getElem?_set_self hblt
  have hc1 : BufIs 5 m1 c o := by rw [hm1]; exact bufIs_set hb hc
  have hwf1 : lowB m1.hp.length m1.hw.length m1.hp = true := by
    rw [hm1, List.length_set]
    exact lowB_setb (by simp only [lows, low, hlow, Bool.and_self]) _ h.wf
  have hl1 : m1.hp.length = m.hp.length := by rw [hm1]; exact List.length_set
  have hw1 : m1.hw = m.hw := by rw [hm1]
  have ho1 : ∀ (i : Nat) (blk : Blk), plainB blk.cs = true → m.hp[i]? = some blk → m1.hp[i]? = some blk ∧ i ≠ b ∧ ∀ n, c ≠ .lsl i 0 n 1 := fun i blk hp hi => by
    have hne : i ≠ b := fun e => by
      subst e
      rw [hb] at hi
      injection hi with hi
      subst hi
      cases hp
    refine ⟨by rw [hm1]; show (m.hp.set b _)[i]? = _; rw [List.getElem?_set_ne (Ne.symm hne)]; exact hi, hne, fun n e => ?_⟩
    rcases hc with ⟨_, h⟩ | ⟨j, h, h2, _⟩
    · rw [h] at e; cases e
    · rw [h] at e
      injection e with e
      subst e
      rw [hi] at h2
      injection h2 with h2
      subst h2
      cases hp
  rw [← hm1]
  clear hm1
  have ho2 : ∀ (i : Nat) (blk : Blk), plainB blk.cs = true → m.hp[i]? = some blk → (apS 5 m1 c o s).2.hp[i]? = some blk ∧ i ≠ b := fun i blk hp hi => by
    obtain ⟨q1, q2, q3⟩ := ho1 i blk hp hi
    exact ⟨apS_old hc1 q1 q3, q2⟩
  have hb2 := apS_old (s := s) hc1 hb1 (bufIs_ne hb1 hc1)
  have hc2 := apS_bufIs (s := s) hc1
  have hwf2 := apS_wf (s := s) hc1 hwf1
  have hlen2 := apS_len (s := s) hc1
  have hhw2 := apS_hw (s := s) hc1
  generalize apS 5 m1 c o s = r at *
  have hb2lt := (List.getElem?_eq_some_iff.1 hb2).1
  refine ⟨⟨⟨true, r.1, List.getElem?_set_self hb2lt, bufIs_set hb2 hc2, ?_⟩, ?_⟩, ⟨hhw2.trans hw1, ?_, fun i blk hp hi => ?_⟩⟩
  · rw [List.length_set]
    exact bufIs_low hc2
  · rw [List.length_set]
    exact lowB_setb (by simp only [lows, low, bufIs_low hc2, Bool.and_self]) _ hwf2
  · show m.hp.length ≤ (r.2.hp.set b _).length
    rw [List.length_set]
    omega
  · obtain ⟨q1, q2⟩ := ho2 i blk hp hi
    show (r.2.hp.set b _)[i]? = _
    rw [List.getElem?_set_ne (Ne.symm q2)]
    exact q1
theorem str_page {m : Mm} {b : Nat} {o : ByteArray} (h : PgM m b o) : ∃ m', GivesW Tryd.prog 38 [.ptr b 0] m (sA o) m' := by
  obtain ⟨u, c, hb, hc, _⟩ := h.at_
  exact ⟨_, str_gives hb hc⟩
def catB : List ByteArray → ByteArray
  | [] => ⟨#[]⟩
  | s :: r => s ++ catB r
theorem catB_snoc (l : List ByteArray) (s : ByteArray) : catB (l ++ [s]) = catB l ++ s := by
  induction l with
  | nil =>
    show s ++ ⟨#[]⟩ = ⟨#[]⟩ ++ s
    rw [app_none rfl, none_app rfl]
  | cons x r ih => simp only [List.cons_append, catB, ih, ByteArray.append_assoc]
theorem catB_take {l : List ByteArray} {k : Nat} (hk : k < l.length) : catB (l.take (k + 1)) = catB (l.take k) ++ l[k] := by
  rw [List.take_succ_eq_append_getElem hk, catB_snoc]
theorem idxS' {ex : Bool} {l : List ByteArray} {k : Nat} (h : k < l.length) : aIndexAddr Tryd.prog 23 (slS ex l) (.c (.v (.int .i64 (k : Int)))) = some (.cptr (stC l[k] ++ (l.drop (k + 1)).flatMap stC)) :=
  idx_R stC 1 (fun _ => rfl) Tryd.underlying23 sz9 (by decide) h
theorem lowP {b i j : Nat} {ex : Bool} {l : List ByteArray} {n : Int} (h : b < i) : lowF i j [(0, .ptr b 0), (6, slS ex l), (7, iA n), (8, iA n)] = true := by
  simp only [lowF, slS, slR, low, Bool.and_true, Nat.blt_eq]
  exact h
structure Chn (m : Mm) (b : Nat) (o : ByteArray) (l : List ByteArray) (n : Nat) (ms : Nat → Mm) : Prop where
  zero : ms 0 = m
  pg : ∀ k, k ≤ n → PgM (ms k) b (o ++ catB (l.take k)) ∧ KpP m (ms k)
  step : ∀ (k : Nat) (hk : k < l.length), k < n → GivesW Tryd.prog 69 [.ptr b 0, sA l[k]] (ms k) (.tup [iA (l[k].size : Nat), .c (.v .nilIface)]) (ms (k + 1))
theorem catB_le (l : List ByteArray) (k : Nat) : (catB (l.take k)).size ≤ (catB l).size := by
  have : catB l = catB (l.take k) ++ catB (l.drop k) := by
    have key : ∀ a b : List ByteArray, catB (a ++ b) = catB a ++ catB b := fun a b => by
      induction a with
      | nil => exact (none_app rfl).symm
      | cons x r ih => simp only [List.cons_append, catB, ih, ByteArray.append_assoc]
    rw [← key, List.take_append_drop]
  rw [this, app_size]
  omega
theorem chn_ex {m : Mm} {b : Nat} {o : ByteArray} (h : PgM m b o) (l : List ByteArray) (hlen : o.size + (catB l).size ≤ 140737488355328) : ∀ n, n ≤ l.length → ∃ ms, Chn m b o l n ms
  | 0, _ => ⟨fun _ => m, rfl, fun k hk => by
      obtain rfl : k = 0 := by omega
      exact ⟨by rw [List.take_zero, catB, app_none rfl]; exact h, KpP.refl m⟩, fun k hk h0 => absurd h0 (Nat.not_lt_zero _)⟩
  | n + 1, hn => by
    obtain ⟨ms, c⟩ := chn_ex h l hlen n (by omega)
    have hlt : n < l.length := by omega
    have h1 := catB_le l (n + 1)
    have h2 := catB_take hlt
    rw [h2, app_size] at h1
    obtain ⟨m', g1, g2, g3⟩ := ws_page (c.pg n (Nat.le_refl _)).1 l[n] (by rw [app_size]; omega)
    refine ⟨fun i => if i ≤ n then ms i else m', ?_, fun k hk => ?_, fun k hk hkn => ?_⟩
    · show (if 0 ≤ n then ms 0 else m') = m
      rw [if_pos (Nat.zero_le _)]
      exact c.zero
    · show PgM (if k ≤ n then ms k else m') b _ ∧ KpP m (if k ≤ n then ms k else m')
      by_cases hkn : k ≤ n
      · rw [if_pos hkn]
        exact c.pg k hkn
      · rw [if_neg hkn]
        obtain rfl : k = n + 1 := by omega
        rw [h2, ← ByteArray.append_assoc]
        exact ⟨g2, (c.pg n (Nat.le_refl _)).2.trans g3⟩
    · show GivesW _ _ _ (if k ≤ n then ms k else m') _ (if k + 1 ≤ n then ms (k + 1) else m')
      rw [if_pos (by omega)]
      by_cases hk2 : k + 1 ≤ n
      · rw [if_pos hk2]
        exact c.step k hk (by omega)
      · rw [if_neg hk2]
        obtain rfl : k = n := by omega
        exact g1
theorem put_page {m : Mm} {b : Nat} {o : ByteArray} (h : PgM m b o) (l : List ByteArray) (ex : Bool) (hl : l.length ≤ 1000000) (hlen : o.size + (catB l).size ≤ 140737488355328) :
    ∃ m', GivesW Tryd.prog 47 [.ptr b 0, slS ex l] m (.tup []) m' ∧ PgM m' b (o ++ catB l) ∧ KpP m m' := by
  obtain ⟨ms, c⟩ := chn_ex h l hlen l.length (Nat.le_refl _)
  have hfin := c.pg l.length (Nat.le_refl _)
  rw [List.take_of_length_le (Nat.le_refl _)] at hfin
  refine ⟨ms l.length, ?_, hfin⟩
  have hz := c.zero
  refine givesW_of' Tryd.func47 rfl (by kernel_rfl) Tryd.ntmps47 rfl rfl fun Q hQ => ?_
  repeat (first | refine tr_seq_k fun _ _ => ?_ | (refine tr_region ?_; simp only [go_sem, List.getElem?_toArray, str_beq, reduceCtorEq, Nat.reduceEqDiff, Nat.reduceLT, Nat.reduceLeDiff, Nat.reduceAdd, Nat.reduceMul, Nat.reduceSub, Nat.reduceBEq, ↓reduceIte, bne_self_eq_false, Bool.and_false, Bool.false_and, Bool.true_or, Bool.false_or]) | refine k_of (by assumption) ?_ | refine tr_block ?_ | refine tr_scope ?_ | (refine tr_skip ?_; try simp only [ex_seq, ex_block]) | (refine tr_label ?_; try simp only [ex_seq, ex_block]) | (refine tr_exit ?_; try simp only [ex_seq_exit, ex_block_exit, Nat.reduceEqDiff, if_true, if_false, ex_seq, ex_block, reduceCtorEq, ↓reduceIte]) | (refine tr_ret ?_; try simp only [ex_seq_ret, ex_block_ret]))
  refine tr_loop_k (σ := Nat) (fun k => [(0, .ptr b 0), (6, slS ex l), (7, iA l.length), (8, iA k)]) (fun k => ms k) (fun k => k ≤ l.length) (fun k => l.length - k) 0 (Nat.zero_le _) ⟨rfl, rfl, rfl, rfl, trivial⟩ hz.symm ?_
  rintro k hk K hK
  by_cases hkl : k < l.length
  · have d1 : decide ((k : Int) < (l.length : Nat)) = true := decide_eq_true (by omega)
    have ix := idxS' (ex := ex) hkl
    have ws := wrap_succ (show k ≤ 1000000000 by omega)
    have cW := c.step k hkl hkl
    have hp := c.pg (k + 1) hkl
    have hq := c.pg k hk
    have h0 := (c.pg 0 (Nat.zero_le _)).1.lt
    generalize l[k] = s at *
    repeat (first | refine tr_seq_k fun _ _ => ?_ | (refine tr_region ?_; simp only [go_sem, List.getElem?_toArray, str_beq, reduceCtorEq, Nat.reduceEqDiff, Nat.reduceLT, Nat.reduceLeDiff, Nat.reduceAdd, Nat.reduceMul, Nat.reduceSub, Nat.reduceBEq, ↓reduceIte, bne_self_eq_false, Bool.and_false, Bool.false_and, Bool.true_or, Bool.false_or, d1]) | refine k_of (by assumption) ?_ | refine tr_block ?_ | refine tr_scope ?_ | (refine tr_skip ?_; try simp only [ex_seq, ex_block]) | (refine tr_label ?_; try simp only [ex_seq, ex_block]) | (refine tr_exit ?_; try simp only [ex_seq_exit, ex_block_exit, Nat.reduceEqDiff, if_true, if_false, ex_seq, ex_block, reduceCtorEq, ↓reduceIte]) | (refine tr_ret ?_; try simp only [ex_seq_ret, ex_block_ret]))
    refine tr_cond rfl (fun ht => ?_) (fun hf => ?_)
    · repeat (first | refine tr_seq_k fun _ _ => ?_ | (refine tr_region ?_; simp only [go_sem, List.getElem?_toArray, str_beq, reduceCtorEq, Nat.reduceEqDiff, Nat.reduceLT, Nat.reduceLeDiff, Nat.reduceAdd, Nat.reduceMul, Nat.reduceSub, Nat.reduceBEq, ↓reduceIte, bne_self_eq_false, Bool.and_false, Bool.false_and, Bool.true_or, Bool.false_or, ix, ws]) | (refine call_givesW (cW) ?_; (try dsimp only); (try simp only [go_sem, List.getElem?_toArray, str_beq, reduceCtorEq, Nat.reduceEqDiff, Nat.reduceLT, Nat.reduceLeDiff, Nat.reduceAdd, Nat.reduceMul, Nat.reduceSub, Nat.reduceBEq, ↓reduceIte, bne_self_eq_false, Bool.and_false, Bool.false_and, Bool.true_or, Bool.false_or, ix, ws])) | refine k_of (by assumption) ?_ | refine tr_block ?_ | refine tr_scope ?_ | (refine tr_skip ?_; try simp only [ex_seq, ex_block]) | (refine tr_label ?_; try simp only [ex_seq, ex_block]) | (refine tr_exit ?_; try simp only [ex_seq_exit, ex_block_exit, Nat.reduceEqDiff, if_true, if_false, ex_seq, ex_block, reduceCtorEq, ↓reduceIte]) | (refine tr_ret ?_; try simp only [ex_seq_ret, ex_block_ret]))
      exact hK (k + 1) _ _ hkl ⟨⟨rfl, rfl, rfl, rfl, trivial⟩, Keep.refl _, lowP hp.1.lt, hp.1.wf, by rw [hz]; exact hp.2.len, by rw [hz, hp.2.hw]; exact Nat.le_refl _⟩ (by omega)
    · cases hf
  · have d1 : decide ((k : Int) < (l.length : Nat)) = false := decide_eq_false (by omega)
    obtain rfl : k = l.length := by omega
    repeat (first | refine tr_seq_k fun _ _ => ?_ | (refine tr_region ?_; simp only [go_sem, List.getElem?_toArray, str_beq, reduceCtorEq, Nat.reduceEqDiff, Nat.reduceLT, Nat.reduceLeDiff, Nat.reduceAdd, Nat.reduceMul, Nat.reduceSub, Nat.reduceBEq, ↓reduceIte, bne_self_eq_false, Bool.and_false, Bool.false_and, Bool.true_or, Bool.false_or, d1]) | refine k_of (by assumption) ?_ | refine tr_block ?_ | refine tr_scope ?_ | (refine tr_skip ?_; try simp only [ex_seq, ex_block]) | (refine tr_label ?_; try simp only [ex_seq, ex_block]) | (refine tr_exit ?_; try simp only [ex_seq_exit, ex_block_exit, Nat.reduceEqDiff, if_true, if_false, ex_seq, ex_block, reduceCtorEq, ↓reduceIte]) | (refine tr_ret ?_; try simp only [ex_seq_ret, ex_block_ret]))
    refine tr_cond rfl (fun ht => ?_) (fun hf => ?_)
    · cases ht
    · repeat (first | refine tr_seq_k fun _ _ => ?_ | (refine tr_region ?_; simp only [go_sem, List.getElem?_toArray, str_beq, reduceCtorEq, Nat.reduceEqDiff, Nat.reduceLT, Nat.reduceLeDiff, Nat.reduceAdd, Nat.reduceMul, Nat.reduceSub, Nat.reduceBEq, ↓reduceIte, bne_self_eq_false, Bool.and_false, Bool.false_and, Bool.true_or, Bool.false_or]) | refine k_of (by assumption) ?_ | refine tr_block ?_ | refine tr_scope ?_ | (refine tr_skip ?_; try simp only [ex_seq, ex_block]) | (refine tr_label ?_; try simp only [ex_seq, ex_block]) | (refine tr_exit ?_; try simp only [ex_seq_exit, ex_block_exit, Nat.reduceEqDiff, if_true, if_false, ex_seq, ex_block, reduceCtorEq, ↓reduceIte]) | (refine tr_ret ?_; try simp only [ex_seq_ret, ex_block_ret]))
      exact (hQ _ _ [] rfl rfl rfl).1
end Go.Proofs.YtaeehadibckcjaaDoor
namespace Go.Proofs.YtaeehadibckcjaaDoor
open Go.RowKit Go.Vs Go.Vs.Ab
set_option maxRecDepth 100000
set_option maxHeartbeats 4000000
theorem chain {b : Nat} (oo : Nat → ByteArray) (G : Nat → Mm → Mm → Prop) {m : Mm} (h : PgM m b (oo 0)) : ∀ n : Nat, (∀ k, k < n → ∀ m', PgM m' b (oo k) → m'.hw = m.hw → ∃ m2, G k m' m2 ∧ PgM m2 b (oo (k + 1)) ∧ KpP m' m2) →
    ∃ ms : Nat → Mm, ms 0 = m ∧ (∀ k, k ≤ n → PgM (ms k) b (oo k) ∧ KpP m (ms k)) ∧ ∀ k, k < n → G k (ms k) (ms (k + 1))
  | 0, _ => ⟨fun _ => m, rfl, fun k hk => by
      obtain rfl : k = 0 := by omega
      exact ⟨h, KpP.refl m⟩, fun k hk => absurd hk (Nat.not_lt_zero _)⟩
  | n + 1, hs => by
    obtain ⟨ms, c0, c1, c2⟩ := chain oo G h n (fun k hk => hs k (by omega))
    obtain ⟨m', g1, g2, g3⟩ := hs n (by omega) (ms n) (c1 n (Nat.le_refl _)).1 (c1 n (Nat.le_refl _)).2.hw
    refine ⟨fun i => if i ≤ n then ms i else m', ?_, fun k hk => ?_, fun k hk => ?_⟩
    · show (if 0 ≤ n then ms 0 else m') = m
      rw [if_pos (Nat.zero_le _)]
      exact c0
    · show PgM (if k ≤ n then ms k else m') b _ ∧ KpP m (if k ≤ n then ms k else m')
      by_cases hkn : k ≤ n
      · rw [if_pos hkn]
        exact c1 k hkn
      · rw [if_neg hkn]
        obtain rfl : k = n + 1 := by omega
        exact ⟨g2, (c1 n (Nat.le_refl _)).2.trans g3⟩
    · show G k (if k ≤ n then ms k else m') (if k + 1 ≤ n then ms (k + 1) else m')
      rw [if_pos (by omega)]
      by_cases hk2 : k + 1 ≤ n
      · rw [if_pos hk2]
        exact c2 k (by omega)
      · rw [if_neg hk2]
        obtain rfl : k = n := by omega
        exact g1
theorem build2T (x y : ByteArray) : aBuildSlice Tryd.prog 23 2 [(0, .c (.v (.string x))), (1, .c (.v (.string y)))] = some [.v (.string x), .v (.string y)] := by
  simp only [aBuildSlice, Tryd.underlying23, sz9, ze9]
  rfl
theorem build4T (x y z u : ByteArray) : aBuildSlice Tryd.prog 23 4 [(0, .c (.v (.string x))), (1, .c (.v (.string y))), (2, .c (.v (.string z))), (3, .c (.v (.string u)))] = some [.v (.string x), .v (.string y), .v (.string z), .v (.string u)] := by
  simp only [aBuildSlice, Tryd.underlying23, sz9, ze9]
  rfl
theorem build5T (x y z u v : ByteArray) : aBuildSlice Tryd.prog 23 5 [(0, .c (.v (.string x))), (1, .c (.v (.string y))), (2, .c (.v (.string z))), (3, .c (.v (.string u))), (4, .c (.v (.string v)))] = some [.v (.string x), .v (.string y), .v (.string z), .v (.string u), .v (.string v)] := by
  simp only [aBuildSlice, Tryd.underlying23, sz9, ze9]
  rfl
theorem two_max : (2 ≤ maxLen) = True := eq_true (by decide)
theorem five_max : (5 ≤ maxLen) = True := eq_true (by decide)
attribute [go_sem] one_max two_max four_max five_max build1T build2T build4T build5T
abbrev tDot : ByteArray := ⟨#[46, 10]⟩
abbrev tIf : ByteArray := ⟨#[32, 105, 102, 32]⟩
theorem app_e (s : ByteArray) : s ++ ⟨#[]⟩ = s := app_none rfl
theorem cat1 (s : ByteArray) : catB [s] = s := app_e s
theorem cat2 (s t : ByteArray) : catB [s, t] = s ++ t := by
  show s ++ (t ++ ⟨#[]⟩) = _
  rw [app_e]
theorem two_le (s t : ByteArray) : [s, t].length ≤ 1000000 := Nat.le_of_ble_eq_true rfl
theorem line_page {m : Mm} {b : Nat} {o : ByteArray} (h : PgM m b o) (l : List ByteArray) (ex : Bool) (hl : l.length ≤ 1000000) (hlen : o.size + (catB l).size + 2 ≤ 140737488355328) :
    ∃ m', GivesW Tryd.prog 36 [.ptr b 0, slS ex l] m (.tup []) m' ∧ PgM m' b ((o ++ catB l) ++ tDot) ∧ KpP m m' := by
  obtain ⟨m1, c1, h1, k1⟩ := put_page h l ex hl (by omega)
  obtain ⟨m2, c2, h2, k2⟩ := put_page h1 [tDot] true (by decide) (by rw [app_size, cat1]; exact hlen)
  rw [cat1] at h2
  refine ⟨m2, ?_, h2, k1.trans k2⟩
  have c2 : GivesW Tryd.prog 47 [.ptr b 0, .c (.sl true 1 [.v (.string tDot)])] m1 (.tup []) m2 := c2
  refine givesW_of' Tryd.func36 rfl (by kernel_rfl) Tryd.ntmps36 rfl rfl fun Q hQ => ?_
  repeat (first | refine tr_seq_k fun _ _ => ?_ | (refine tr_region ?_; simp only [go_sem, List.getElem?_toArray, str_beq, reduceCtorEq, Nat.reduceEqDiff, Nat.reduceLT, Nat.reduceLeDiff, Nat.reduceAdd, Nat.reduceMul, Nat.reduceSub, Nat.reduceBEq, ↓reduceIte, bne_self_eq_false, Bool.and_false, Bool.false_and, Bool.true_or, Bool.false_or]) | (refine call_givesW (c1) ?_; (try dsimp only); (try simp only [go_sem, List.getElem?_toArray, str_beq, reduceCtorEq, Nat.reduceEqDiff, Nat.reduceLT, Nat.reduceLeDiff, Nat.reduceAdd, Nat.reduceMul, Nat.reduceSub, Nat.reduceBEq, ↓reduceIte, bne_self_eq_false, Bool.and_false, Bool.false_and, Bool.true_or, Bool.false_or])) | (refine call_givesW (c2) ?_; (try dsimp only); (try simp only [go_sem, List.getElem?_toArray, str_beq, reduceCtorEq, Nat.reduceEqDiff, Nat.reduceLT, Nat.reduceLeDiff, Nat.reduceAdd, Nat.reduceMul, Nat.reduceSub, Nat.reduceBEq, ↓reduceIte, bne_self_eq_false, Bool.and_false, Bool.false_and, Bool.true_or, Bool.false_or])) | refine k_of (by assumption) ?_ | refine tr_block ?_ | refine tr_scope ?_ | (refine tr_skip ?_; try simp only [ex_seq, ex_block]) | (refine tr_label ?_; try simp only [ex_seq, ex_block]) | (refine tr_exit ?_; try simp only [ex_seq_exit, ex_block_exit, Nat.reduceEqDiff, if_true, if_false, ex_seq, ex_block, reduceCtorEq, ↓reduceIte]) | (refine tr_ret ?_; try simp only [ex_seq_ret, ex_block_ret]))
  exact (hQ _ _ [] rfl rfl rfl).1
def pbodyK (l : List Atm) : Nat → ByteArray
  | 0 => ⟨#[]⟩
  | k + 1 => pbodyK l k ++ match l[k]? with
    | some a => (if k = 0 then tIf else tComma) ++ ptext a
    | none => ⟨#[]⟩
def pbody (l : List Atm) : ByteArray := pbodyK l l.length
theorem pbodyK_next {l : List Atm} {k : Nat} (h : k < l.length) : pbodyK l (k + 1) = pbodyK l k ++ ((if k = 0 then tIf else tComma) ++ ptext l[k]) := by
  simp only [pbodyK, List.getElem?_eq_getElem h]
theorem ptext_size {a : Atm} (h : AtSz a) : (ptext a).size ≤ 10000000 := by
  obtain ⟨h1, h2, h3⟩ := h
  have hk := psaidK_size ⟨h1, h2, h3⟩ a.count
  have h4 := a.count_le
  have hm : a.count * 1000002 ≤ 4 * 1000002 := Nat.mul_le_mul_right _ h4
  have e1 : tSays.size = 6 := rfl
  have e2 : tShut.size = 1 := rfl
  have h5 : (psaid a).size ≤ 6000000 := by
    unfold psaid
    split
    · rw [app_size, e2]; omega
    · omega
  unfold ptext
  rw [app_size, app_size, e1]
  omega
theorem pbodyK_size {l : List Atm} (h : ∀ a ∈ l, AtSz a) : ∀ k, (pbodyK l k).size ≤ k * 10000010
  | 0 => by show (0 : Nat) ≤ _; omega
  | k + 1 => by
    have ih := pbodyK_size h k
    unfold pbodyK
    rw [app_size]
    split
    · rename_i a ha
      have := ptext_size (h a (List.mem_of_getElem? ha))
      rw [app_size]
      have e1 : tIf.size = 4 := rfl
      have e2 : tComma.size = 2 := rfl
      split
      · rw [e1]; omega
      · rw [e2]; omega
    · have e0 : (⟨#[]⟩ : ByteArray).size = 0 := rfl
      have ih2 : (pbodyK l k).size ≤ k * 10000010 := ih
      generalize (⟨#[]⟩ : ByteArray).size = z at *
      omega
theorem PgM.add {m : Mm} {b : Nat} {o : ByteArray} (h : PgM m b o) {cs : List AV} (hl : ∀ i j, lows i j cs = true) : PgM ⟨m.hp ++ [⟨false, cs⟩], m.hw⟩ b o := by
  obtain ⟨u, c, hb, hc, hlow⟩ := h.at_
  have hlt := h.lt
  have hc' : BufIs 5 ⟨m.hp ++ [⟨false, cs⟩], m.hw⟩ c o := by
    rcases hc with hc | ⟨j, h1, h2, h3⟩
    · exact Or.inl hc
    · refine Or.inr ⟨j, h1, ?_, h3⟩
      show (m.hp ++ [_])[j]? = _
      rw [List.getElem?_append_left (List.getElem?_eq_some_iff.1 h2).1]
      exact h2
  refine ⟨⟨u, c, ?_, hc', bufIs_low hc'⟩, ?_⟩
  · show (m.hp ++ [_])[b]? = _
    rw [List.getElem?_append_left hlt]
    exact hb
  · exact lowB_app (hl _ _) (lowB_up (by simp) (Nat.le_refl _) h.wf)
theorem idxA' {ex : Bool} {l : List Atm} {k : Nat} (h : k < l.length) : aIndexAddr Tryd.prog 43 (.c (slC atC ex l)) (.c (.v (.int .i64 (k : Int)))) = some (.cptr (atC l[k] ++ (l.drop (k + 1)).flatMap atC)) :=
  idx_R atC 11 (fun _ => rfl) Tryd.underlying43 sz42 (by decide) h
theorem lowQ {b i j : Nat} {ex : Bool} {l : List Atm} {s : ByteArray} {n k : Int} (h : b < i) : lowF i j [(0, .ptr b 0), (4, sA s), (7, .c (slC atC ex l)), (8, iA n), (9, iA k)] = true := by
  simp only [lowF, low, Bool.and_true, Nat.blt_eq]
  exact h
theorem body_page {m : Mm} {b : Nat} {o : ByteArray} (h : PgM m b o) (l : List Atm) (ex : Bool) (hl : l.length ≤ 100) (hs : ∀ a ∈ l, AtSz a) (hlen : o.size ≤ 100000000000) :
    ∃ m', GivesW Tryd.prog 49 [.ptr b 0, .c (slC atC ex l)] m (.tup []) m' ∧ PgM m' b (o ++ pbody l) ∧ KpP m m' := by
  have hsz : ∀ k, k ≤ l.length → (o ++ pbodyK l k).size ≤ 110000000000 := fun k hk => by
    have := pbodyK_size hs k
    have h2 : k * 10000010 ≤ 100 * 10000010 := Nat.mul_le_mul_right _ (by omega)
    rw [app_size]
    omega
  obtain ⟨ms, c0, c1, c2⟩ := chain (fun k => o ++ pbodyK l k) (fun k m' m2 => ∀ hk : k < l.length, GivesW Tryd.prog 47 [.ptr b 0, slS true [if k = 0 then tIf else tComma, ptext l[k]]] ⟨m'.hp ++ [(⟨false, (atC l[k]).map AV.c⟩ : Blk)], m'.hw⟩ (.tup []) m2) (m := m) (by
      show PgM m b (o ++ ⟨#[]⟩)
      rw [app_e]
      exact h) l.length (fun k hk m' hp _ => by
      have hz := ptext_size (hs l[k] (List.getElem_mem hk))
      have hz2 := hsz k (by omega)
      obtain ⟨m2, g1, g2, g3⟩ := put_page (hp.add (cs := (atC l[k]).map .c) (fun i j => rfl)) [if k = 0 then tIf else tComma, ptext l[k]] true (two_le _ _) (by
        rw [cat2, app_size (if k = 0 then tIf else tComma)]
        have : (if k = 0 then tIf else tComma).size ≤ 4 := by split <;> decide
        omega)
      refine ⟨m2, fun _ => g1, ?_, ⟨g3.hw, Nat.le_trans (by simp) g3.len, fun i blk hp hi => g3.old i blk hp (by show (m'.hp ++ [_])[i]? = _; rw [List.getElem?_append_left (List.getElem?_eq_some_iff.1 hi).1]; exact hi)⟩⟩
      rw [pbodyK_next hk, ← ByteArray.append_assoc]
      rw [cat2] at g2
      exact g2)
  refine ⟨ms l.length, ?_, (c1 l.length (Nat.le_refl _)).1, (c1 l.length (Nat.le_refl _)).2⟩
  refine givesW_of' Tryd.func49 rfl (by kernel_rfl) Tryd.ntmps49 rfl rfl fun Q hQ => ?_
  repeat (first | refine tr_seq_k fun _ _ => ?_ | (refine tr_region ?_; simp only [go_sem, List.getElem?_toArray, str_beq, reduceCtorEq, Nat.reduceEqDiff, Nat.reduceLT, Nat.reduceLeDiff, Nat.reduceAdd, Nat.reduceMul, Nat.reduceSub, Nat.reduceBEq, ↓reduceIte, bne_self_eq_false, Bool.and_false, Bool.false_and, Bool.true_or, Bool.false_or]) | refine k_of (by assumption) ?_ | refine tr_block ?_ | refine tr_scope ?_ | (refine tr_skip ?_; try simp only [ex_seq, ex_block]) | (refine tr_label ?_; try simp only [ex_seq, ex_block]) | (refine tr_exit ?_; try simp only [ex_seq_exit, ex_block_exit, Nat.reduceEqDiff, if_true, if_false, ex_seq, ex_block, reduceCtorEq, ↓reduceIte]) | (refine tr_ret ?_; try simp only [ex_seq_ret, ex_block_ret]))
  refine tr_loop_k (σ := Nat) (fun k => [(0, .ptr b 0), (4, sA (if k = 0 then tIf else tComma)), (7, .c (slC atC ex l)), (8, iA l.length), (9, iA k)]) (fun k => ms k) (fun k => k ≤ l.length) (fun k => l.length - k) 0 (Nat.zero_le _) ⟨rfl, rfl, rfl, rfl, rfl, trivial⟩ c0.symm ?_
  rintro k hk K hK
  by_cases hkl : k < l.length
  · have d1 : decide ((k : Int) < (l.length : Nat)) = true := decide_eq_true (by omega)
    have ix := idxA' (ex := ex) hkl
    have ws := wrap_succ (show k ≤ 1000000000 by omega)
    have cP := c2 k hkl hkl
    have hp := c1 (k + 1) hkl
    have cT := text_does l[k] (hs l[k] (List.getElem_mem hkl))
    have hA : ∀ x : Blk, ((ms k).hp ++ [x])[(ms k).hp.length]? = some x := fun x => by simp
    have hS : ∀ x y : Blk, ((ms k).hp ++ [x]).set (ms k).hp.length y = (ms k).hp ++ [y] := fun x y => by simp
    have hb := (c1 k hk).1.lt
    generalize l[k] = a at *
    repeat (first | refine tr_seq_k fun _ _ => ?_ | (refine tr_region ?_; simp only [go_sem, List.getElem?_toArray, str_beq, reduceCtorEq, Nat.reduceEqDiff, Nat.reduceLT, Nat.reduceLeDiff, Nat.reduceAdd, Nat.reduceMul, Nat.reduceSub, Nat.reduceBEq, ↓reduceIte, bne_self_eq_false, Bool.and_false, Bool.false_and, Bool.true_or, Bool.false_or, d1]) | refine k_of (by assumption) ?_ | refine tr_block ?_ | refine tr_scope ?_ | (refine tr_skip ?_; try simp only [ex_seq, ex_block]) | (refine tr_label ?_; try simp only [ex_seq, ex_block]) | (refine tr_exit ?_; try simp only [ex_seq_exit, ex_block_exit, Nat.reduceEqDiff, if_true, if_false, ex_seq, ex_block, reduceCtorEq, ↓reduceIte]) | (refine tr_ret ?_; try simp only [ex_seq_ret, ex_block_ret]))
    refine tr_cond rfl (fun ht => ?_) (fun hf => ?_)
    · repeat (first | refine tr_seq_k fun _ _ => ?_ | (refine tr_region ?_; simp only [go_sem, List.getElem?_toArray, str_beq, reduceCtorEq, Nat.reduceEqDiff, Nat.reduceLT, Nat.reduceLeDiff, Nat.reduceAdd, Nat.reduceMul, Nat.reduceSub, Nat.reduceBEq, ↓reduceIte, bne_self_eq_false, Bool.and_false, Bool.false_and, Bool.true_or, Bool.false_or, ix, ws, hA, hS]) | (refine call_of (cT) ?_ ?_; (first | rfl | simp only [go_sem, List.getElem?_toArray, str_beq, reduceCtorEq, Nat.reduceEqDiff, Nat.reduceLT, Nat.reduceLeDiff, Nat.reduceAdd, Nat.reduceMul, Nat.reduceSub, Nat.reduceBEq, ↓reduceIte, bne_self_eq_false, Bool.and_false, Bool.false_and, Bool.true_or, Bool.false_or, ix, ws, hA, hS, shut_col]); simp only [go_sem, List.getElem?_toArray, str_beq, reduceCtorEq, Nat.reduceEqDiff, Nat.reduceLT, Nat.reduceLeDiff, Nat.reduceAdd, Nat.reduceMul, Nat.reduceSub, Nat.reduceBEq, ↓reduceIte, bne_self_eq_false, Bool.and_false, Bool.false_and, Bool.true_or, Bool.false_or, ix, ws, hA, hS]) | (refine call_givesW (cP) ?_; (try dsimp only); (try simp only [go_sem, List.getElem?_toArray, str_beq, reduceCtorEq, Nat.reduceEqDiff, Nat.reduceLT, Nat.reduceLeDiff, Nat.reduceAdd, Nat.reduceMul, Nat.reduceSub, Nat.reduceBEq, ↓reduceIte, bne_self_eq_false, Bool.and_false, Bool.false_and, Bool.true_or, Bool.false_or, ix, ws, hA, hS])) | refine k_of (by assumption) ?_ | refine tr_block ?_ | refine tr_scope ?_ | (refine tr_skip ?_; try simp only [ex_seq, ex_block]) | (refine tr_label ?_; try simp only [ex_seq, ex_block]) | (refine tr_exit ?_; try simp only [ex_seq_exit, ex_block_exit, Nat.reduceEqDiff, if_true, if_false, ex_seq, ex_block, reduceCtorEq, ↓reduceIte]) | (refine tr_ret ?_; try simp only [ex_seq_ret, ex_block_ret]))
      exact hK (k + 1) _ _ hkl ⟨⟨rfl, rfl, rfl, rfl, rfl, trivial⟩, Keep.refl _, lowQ hp.1.lt, hp.1.wf, by rw [c0]; exact hp.2.len, by rw [c0, hp.2.hw]; exact Nat.le_refl _⟩ (by omega)
    · cases hf
  · have d1 : decide ((k : Int) < (l.length : Nat)) = false := decide_eq_false (by omega)
    obtain rfl : k = l.length := by omega
    repeat (first | refine tr_seq_k fun _ _ => ?_ | (refine tr_region ?_; simp only [go_sem, List.getElem?_toArray, str_beq, reduceCtorEq, Nat.reduceEqDiff, Nat.reduceLT, Nat.reduceLeDiff, Nat.reduceAdd, Nat.reduceMul, Nat.reduceSub, Nat.reduceBEq, ↓reduceIte, bne_self_eq_false, Bool.and_false, Bool.false_and, Bool.true_or, Bool.false_or, d1]) | refine k_of (by assumption) ?_ | refine tr_block ?_ | refine tr_scope ?_ | (refine tr_skip ?_; try simp only [ex_seq, ex_block]) | (refine tr_label ?_; try simp only [ex_seq, ex_block]) | (refine tr_exit ?_; try simp only [ex_seq_exit, ex_block_exit, Nat.reduceEqDiff, if_true, if_false, ex_seq, ex_block, reduceCtorEq, ↓reduceIte]) | (refine tr_ret ?_; try simp only [ex_seq_ret, ex_block_ret]))
    refine tr_cond rfl (fun ht => ?_) (fun hf => ?_)
    · cases ht
    · repeat (first | refine tr_seq_k fun _ _ => ?_ | (refine tr_region ?_; simp only [go_sem, List.getElem?_toArray, str_beq, reduceCtorEq, Nat.reduceEqDiff, Nat.reduceLT, Nat.reduceLeDiff, Nat.reduceAdd, Nat.reduceMul, Nat.reduceSub, Nat.reduceBEq, ↓reduceIte, bne_self_eq_false, Bool.and_false, Bool.false_and, Bool.true_or, Bool.false_or]) | refine k_of (by assumption) ?_ | refine tr_block ?_ | refine tr_scope ?_ | (refine tr_skip ?_; try simp only [ex_seq, ex_block]) | (refine tr_label ?_; try simp only [ex_seq, ex_block]) | (refine tr_exit ?_; try simp only [ex_seq_exit, ex_block_exit, Nat.reduceEqDiff, if_true, if_false, ex_seq, ex_block, reduceCtorEq, ↓reduceIte]) | (refine tr_ret ?_; try simp only [ex_seq_ret, ex_block_ret]))
      exact (hQ _ _ [] rfl rfl rfl).1
end Go.Proofs.YtaeehadibckcjaaDoor
namespace Go.Proofs.YtaeehadibckcjaaDoor
open Go.RowKit Go.Vs Go.Vs.Ab
set_option maxRecDepth 100000
set_option maxHeartbeats 4000000
theorem cut_hi {s : ByteArray} {n : Nat} (h : n ≤ s.size) : pureVal Tryd.prog (Instr.sliceAt 9 (.string s) none (some (.int .i64 (n : Int))) none) = some (.string (s.extract 0 n)) := by
  have hb : pureVal Tryd.prog (Instr.sliceBounds false s.size s.size none (some (.int .i64 (n : Int))) none) = some (0, n, s.size) := by
    unfold Instr.sliceBounds Instr.sliceBound
    simp only [pv_bind, pv_pure, Option.bind_some, asIntOf]
    rw [if_pos ⟨by omega, by omega⟩]
    simp [pv_pure]
  unfold Instr.sliceAt
  rw [pv_bind, pv_under Tryd.underlying9]
  show pureVal Tryd.prog (Instr.slice 9 (.string s) none (some (.int .i64 (n : Int))) none) = _
  unfold Instr.slice
  rw [pv_bind, pv_under Tryd.underlying9]
  simp only [Option.bind_some, Option.isSome_none, Bool.false_eq_true, if_false, pv_bind, hb, pv_pure]
theorem cut_lo {s : ByteArray} {n : Nat} (h : n ≤ s.size) : pureVal Tryd.prog (Instr.sliceAt 9 (.string s) (some (.int .i64 (n : Int))) none none) = some (.string (s.extract n s.size)) := by
  have hb : pureVal Tryd.prog (Instr.sliceBounds false s.size s.size (some (.int .i64 (n : Int))) none none) = some (n, s.size, s.size) := by
    unfold Instr.sliceBounds Instr.sliceBound
    simp only [pv_bind, pv_pure, Option.bind_some, asIntOf]
    rw [if_pos ⟨by omega, by omega⟩]
    simp [pv_pure]
  unfold Instr.sliceAt
  rw [pv_bind, pv_under Tryd.underlying9]
  show pureVal Tryd.prog (Instr.slice 9 (.string s) (some (.int .i64 (n : Int))) none none) = _
  unfold Instr.slice
  rw [pv_bind, pv_under Tryd.underlying9]
  simp only [Option.bind_some, Option.isSome_none, Bool.false_eq_true, if_false, pv_bind, hb, pv_pure]
theorem ext_pre (p x : ByteArray) : (p ++ x).extract 0 p.size = p := by
  simp [ByteArray.extract_append]
theorem ext_suf (p x : ByteArray) : (p ++ x).extract p.size (p ++ x).size = x := by
  rw [app_size, ByteArray.extract_append]
  have h1 : p.extract p.size (p.size + x.size) = ⟨#[]⟩ := by
    apply size0
    simp
  rw [h1, none_app rfl]
  simp
theorem hasPre_does {s p x : ByteArray} (hs : s = p ++ x) : Does Tryd.prog 84 [sA s, sA p] (fun m => (bA true, m)) := by
  have hle : p.size ≤ s.size := by rw [hs, app_size]; omega
  have g1 : decide ((s.size : Int) ≥ (p.size : Nat)) = true := decide_eq_true (by omega)
  have c1 := cut_hi hle
  rw [show s.extract 0 p.size = p by rw [hs]; exact ext_pre p x] at c1
  clear hs
  refine does_of' Tryd.func84 rfl (by kernel_rfl) rfl Tryd.ntmps84 rfl rfl fun Q hQ => ?_
  repeat (first | refine tr_seq_k fun _ _ => ?_ | (refine tr_region ?_; simp only [go_sem, List.getElem?_toArray, str_beq, reduceCtorEq, Nat.reduceEqDiff, Nat.reduceLT, Nat.reduceLeDiff, Nat.reduceAdd, Nat.reduceMul, Nat.reduceSub, Nat.reduceBEq, ↓reduceIte, bne_self_eq_false, Bool.and_false, Bool.false_and, Bool.true_or, Bool.false_or, g1, c1]) | refine k_of (by assumption) ?_ | refine tr_block ?_ | refine tr_scope ?_ | (refine tr_skip ?_; try simp only [ex_seq, ex_block]) | (refine tr_label ?_; try simp only [ex_seq, ex_block]) | (refine tr_exit ?_; try simp only [ex_seq_exit, ex_block_exit, Nat.reduceEqDiff, if_true, if_false, ex_seq, ex_block, reduceCtorEq, ↓reduceIte]) | (refine tr_ret ?_; try simp only [ex_seq_ret, ex_block_ret]))
  refine (hQ _ _ [bA true] ?_ (fun m => ?_)).2 <;> simp only [go_sem, List.getElem?_toArray, str_beq, reduceCtorEq, Nat.reduceEqDiff, Nat.reduceLT, Nat.reduceLeDiff, Nat.reduceAdd, Nat.reduceMul, Nat.reduceSub, Nat.reduceBEq, ↓reduceIte, bne_self_eq_false, Bool.and_false, Bool.false_and, Bool.true_or, Bool.false_or, Tryd.f84,]
theorem trim_does {s p x : ByteArray} (hs : s = p ++ x) : Does Tryd.prog 50 [sA s, sA p] (fun m => (sA x, m)) := by
  have cH := hasPre_does hs
  have hle : p.size ≤ s.size := by rw [hs, app_size]; omega
  have c1 := cut_lo hle
  rw [show s.extract p.size s.size = x by rw [hs]; exact ext_suf p x] at c1
  clear hs
  have cT : Does Tryd.prog 71 [sA s, sA p] (fun m => (sA x, m)) := by
    refine does_of' Tryd.func71 rfl (by kernel_rfl) rfl Tryd.ntmps71 rfl rfl fun Q hQ => ?_
    repeat (first | refine tr_seq_k fun _ _ => ?_ | (refine tr_region ?_; simp only [go_sem, List.getElem?_toArray, str_beq, reduceCtorEq, Nat.reduceEqDiff, Nat.reduceLT, Nat.reduceLeDiff, Nat.reduceAdd, Nat.reduceMul, Nat.reduceSub, Nat.reduceBEq, ↓reduceIte, bne_self_eq_false, Bool.and_false, Bool.false_and, Bool.true_or, Bool.false_or]) | (refine call_of (cH) ?_ ?_; (first | rfl | simp only [go_sem, List.getElem?_toArray, str_beq, reduceCtorEq, Nat.reduceEqDiff, Nat.reduceLT, Nat.reduceLeDiff, Nat.reduceAdd, Nat.reduceMul, Nat.reduceSub, Nat.reduceBEq, ↓reduceIte, bne_self_eq_false, Bool.and_false, Bool.false_and, Bool.true_or, Bool.false_or, shut_col]); simp only [go_sem, List.getElem?_toArray, str_beq, reduceCtorEq, Nat.reduceEqDiff, Nat.reduceLT, Nat.reduceLeDiff, Nat.reduceAdd, Nat.reduceMul, Nat.reduceSub, Nat.reduceBEq, ↓reduceIte, bne_self_eq_false, Bool.and_false, Bool.false_and, Bool.true_or, Bool.false_or]) | refine k_of (by assumption) ?_ | refine tr_block ?_ | refine tr_scope ?_ | (refine tr_skip ?_; try simp only [ex_seq, ex_block]) | (refine tr_label ?_; try simp only [ex_seq, ex_block]) | (refine tr_exit ?_; try simp only [ex_seq_exit, ex_block_exit, Nat.reduceEqDiff, if_true, if_false, ex_seq, ex_block, reduceCtorEq, ↓reduceIte]) | (refine tr_ret ?_; try simp only [ex_seq_ret, ex_block_ret]))
    refine tr_cond rfl (fun ht => ?_) (fun hf => ?_)
    · repeat (first | refine tr_seq_k fun _ _ => ?_ | (refine tr_region ?_; simp only [go_sem, List.getElem?_toArray, str_beq, reduceCtorEq, Nat.reduceEqDiff, Nat.reduceLT, Nat.reduceLeDiff, Nat.reduceAdd, Nat.reduceMul, Nat.reduceSub, Nat.reduceBEq, ↓reduceIte, bne_self_eq_false, Bool.and_false, Bool.false_and, Bool.true_or, Bool.false_or, c1]) | refine k_of (by assumption) ?_ | refine tr_block ?_ | refine tr_scope ?_ | (refine tr_skip ?_; try simp only [ex_seq, ex_block]) | (refine tr_label ?_; try simp only [ex_seq, ex_block]) | (refine tr_exit ?_; try simp only [ex_seq_exit, ex_block_exit, Nat.reduceEqDiff, if_true, if_false, ex_seq, ex_block, reduceCtorEq, ↓reduceIte]) | (refine tr_ret ?_; try simp only [ex_seq_ret, ex_block_ret]))
      refine (hQ _ _ [sA x] ?_ (fun m => ?_)).2 <;> simp only [go_sem, List.getElem?_toArray, str_beq, reduceCtorEq, Nat.reduceEqDiff, Nat.reduceLT, Nat.reduceLeDiff, Nat.reduceAdd, Nat.reduceMul, Nat.reduceSub, Nat.reduceBEq, ↓reduceIte, bne_self_eq_false, Bool.and_false, Bool.false_and, Bool.true_or, Bool.false_or, Tryd.f71,]
    · cases hf
  refine does_of' Tryd.func50 rfl (by kernel_rfl) rfl Tryd.ntmps50 rfl rfl fun Q hQ => ?_
  repeat (first | refine tr_seq_k fun _ _ => ?_ | (refine tr_region ?_; simp only [go_sem, List.getElem?_toArray, str_beq, reduceCtorEq, Nat.reduceEqDiff, Nat.reduceLT, Nat.reduceLeDiff, Nat.reduceAdd, Nat.reduceMul, Nat.reduceSub, Nat.reduceBEq, ↓reduceIte, bne_self_eq_false, Bool.and_false, Bool.false_and, Bool.true_or, Bool.false_or]) | (refine call_of (cT) ?_ ?_; (first | rfl | simp only [go_sem, List.getElem?_toArray, str_beq, reduceCtorEq, Nat.reduceEqDiff, Nat.reduceLT, Nat.reduceLeDiff, Nat.reduceAdd, Nat.reduceMul, Nat.reduceSub, Nat.reduceBEq, ↓reduceIte, bne_self_eq_false, Bool.and_false, Bool.false_and, Bool.true_or, Bool.false_or, shut_col]); simp only [go_sem, List.getElem?_toArray, str_beq, reduceCtorEq, Nat.reduceEqDiff, Nat.reduceLT, Nat.reduceLeDiff, Nat.reduceAdd, Nat.reduceMul, Nat.reduceSub, Nat.reduceBEq, ↓reduceIte, bne_self_eq_false, Bool.and_false, Bool.false_and, Bool.true_or, Bool.false_or]) | refine k_of (by assumption) ?_ | refine tr_block ?_ | refine tr_scope ?_ | (refine tr_skip ?_; try simp only [ex_seq, ex_block]) | (refine tr_label ?_; try simp only [ex_seq, ex_block]) | (refine tr_exit ?_; try simp only [ex_seq_exit, ex_block_exit, Nat.reduceEqDiff, if_true, if_false, ex_seq, ex_block, reduceCtorEq, ↓reduceIte]) | (refine tr_ret ?_; try simp only [ex_seq_ret, ex_block_ret]))
  refine (hQ _ _ [sA x] ?_ (fun m => ?_)).2 <;> simp only [go_sem, List.getElem?_toArray, str_beq, reduceCtorEq, Nat.reduceEqDiff, Nat.reduceLT, Nat.reduceLeDiff, Nat.reduceAdd, Nat.reduceMul, Nat.reduceSub, Nat.reduceBEq, ↓reduceIte, bne_self_eq_false, Bool.and_false, Bool.false_and, Bool.true_or, Bool.false_or, Tryd.f50,]
/-! ### rules, grants, clears, goals -/
def pRule (r : Rul) : ByteArray := ptext r.head ++ pbody r.body
theorem fresh_page (bs : List Blk) (hw : lowB (bs.length + 1) 0 bs = true) : PgM ⟨bs ++ [⟨false, [.bld 81 false (.c (.v (.slice none 0 0)))]⟩], []⟩ bs.length ⟨#[]⟩ := by
  refine ⟨⟨false, .c (.v (.slice none 0 0)), by simp, Or.inl ⟨rfl, rfl⟩, rfl⟩, lowB_app rfl ?_⟩
  rw [List.length_append]
  exact hw
theorem rule_does (r : Rul) (h1 : AtSz r.head) (h2 : ∀ a ∈ r.body, AtSz a) (h3 : r.body.length ≤ 100) : Does Tryd.prog 14 [ruA r] (fun m => (sA (pRule r), m)) := by
  have hz := ptext_size h1
  obtain ⟨m1, c1, p1, k1⟩ := put_page (fresh_page [⟨false, (ruC r).map AV.c⟩] rfl) [ptext r.head] true (Nat.le_of_ble_eq_true rfl) (by rw [cat1]; show 0 + _ ≤ _; omega)
  rw [cat1, none_app rfl] at p1
  have hb0 := k1.old 0 ⟨false, (ruC r).map AV.c⟩ rfl rfl
  obtain ⟨m2, c2, p2, k2⟩ := body_page p1 r.body r.ex h3 h2 (by omega)
  obtain ⟨m3, c3⟩ := str_page p2
  have cT := text_does r.head h1
  have hb0 : m1.hp[0]? = some ⟨false, ([.c (.v (.string r.head.says)), .c (.v (.string r.head.pred)), .c (.v (.int .i64 r.head.n)), .c (.v (.bool r.head.a0.v)), .c (.v (.string r.head.a0.name)), .c (.v (.bool r.head.a1.v)), .c (.v (.string r.head.a1.name)), .c (.v (.bool r.head.a2.v)), .c (.v (.string r.head.a2.name)), .c (.v (.bool r.head.a3.v)), .c (.v (.string r.head.a3.name))] : List AV) ++ [.c (slC atC r.ex r.body)]⟩ := hb0
  simp only [List.cons_append, List.nil_append] at hb0
  refine does_of' Tryd.func14 rfl (by kernel_rfl) rfl Tryd.ntmps14 rfl rfl fun Q hQ => ?_
  repeat (first | refine tr_seq_k fun _ _ => ?_ | (refine tr_region ?_; simp only [go_sem, List.getElem?_toArray, str_beq, reduceCtorEq, Nat.reduceEqDiff, Nat.reduceLT, Nat.reduceLeDiff, Nat.reduceAdd, Nat.reduceMul, Nat.reduceSub, Nat.reduceBEq, ↓reduceIte, bne_self_eq_false, Bool.and_false, Bool.false_and, Bool.true_or, Bool.false_or, hb0]) | (refine call_of (cT) ?_ ?_; (first | rfl | simp only [go_sem, List.getElem?_toArray, str_beq, reduceCtorEq, Nat.reduceEqDiff, Nat.reduceLT, Nat.reduceLeDiff, Nat.reduceAdd, Nat.reduceMul, Nat.reduceSub, Nat.reduceBEq, ↓reduceIte, bne_self_eq_false, Bool.and_false, Bool.false_and, Bool.true_or, Bool.false_or, hb0, shut_col]); simp only [go_sem, List.getElem?_toArray, str_beq, reduceCtorEq, Nat.reduceEqDiff, Nat.reduceLT, Nat.reduceLeDiff, Nat.reduceAdd, Nat.reduceMul, Nat.reduceSub, Nat.reduceBEq, ↓reduceIte, bne_self_eq_false, Bool.and_false, Bool.false_and, Bool.true_or, Bool.false_or, hb0]) | (refine call_givesW (c1) ?_; (try dsimp only); (try simp only [go_sem, List.getElem?_toArray, str_beq, reduceCtorEq, Nat.reduceEqDiff, Nat.reduceLT, Nat.reduceLeDiff, Nat.reduceAdd, Nat.reduceMul, Nat.reduceSub, Nat.reduceBEq, ↓reduceIte, bne_self_eq_false, Bool.and_false, Bool.false_and, Bool.true_or, Bool.false_or, hb0])) | (refine call_givesW (c2) ?_; (try dsimp only); (try simp only [go_sem, List.getElem?_toArray, str_beq, reduceCtorEq, Nat.reduceEqDiff, Nat.reduceLT, Nat.reduceLeDiff, Nat.reduceAdd, Nat.reduceMul, Nat.reduceSub, Nat.reduceBEq, ↓reduceIte, bne_self_eq_false, Bool.and_false, Bool.false_and, Bool.true_or, Bool.false_or, hb0])) | (refine call_givesW (c3) ?_; (try dsimp only); (try simp only [go_sem, List.getElem?_toArray, str_beq, reduceCtorEq, Nat.reduceEqDiff, Nat.reduceLT, Nat.reduceLeDiff, Nat.reduceAdd, Nat.reduceMul, Nat.reduceSub, Nat.reduceBEq, ↓reduceIte, bne_self_eq_false, Bool.and_false, Bool.false_and, Bool.true_or, Bool.false_or, hb0])) | refine k_of (by assumption) ?_ | refine tr_block ?_ | refine tr_scope ?_ | (refine tr_skip ?_; try simp only [ex_seq, ex_block]) | (refine tr_label ?_; try simp only [ex_seq, ex_block]) | (refine tr_exit ?_; try simp only [ex_seq_exit, ex_block_exit, Nat.reduceEqDiff, if_true, if_false, ex_seq, ex_block, reduceCtorEq, ↓reduceIte]) | (refine tr_ret ?_; try simp only [ex_seq_ret, ex_block_ret]))
  refine (hQ _ _ [sA (pRule r)] ?_ (fun m => ?_)).2 <;> simp only [go_sem, List.getElem?_toArray, str_beq, reduceCtorEq, Nat.reduceEqDiff, Nat.reduceLT, Nat.reduceLeDiff, Nat.reduceAdd, Nat.reduceMul, Nat.reduceSub, Nat.reduceBEq, ↓reduceIte, bne_self_eq_false, Bool.and_false, Bool.false_and, Bool.true_or, Bool.false_or, Tryd.f14, pRule]
theorem psaidK_says (a : Atm) (s : ByteArray) : ∀ k, psaidK { a with says := s } k = psaidK a k
  | 0 => rfl
  | k + 1 => by
    unfold psaidK
    rw [psaidK_says a s k]
    rfl
theorem psaid_says (a : Atm) (s : ByteArray) : psaid { a with says := s } = psaid a := by
  unfold psaid
  rw [psaidK_says]
  rfl
abbrev tCan : ByteArray := ⟨#[32, 99, 97, 110, 115, 97, 121, 32]⟩
def pGrant (g : Grt) : ByteArray := catB [g.head.says, tSays, g.tw, tCan, psaid g.head] ++ pbody g.body
theorem grant_does (g : Grt) (h0 : g.tw.size ≤ 1000000) (h1 : AtSz g.head) (h2 : ∀ a ∈ g.body, AtSz a) (h3 : g.body.length ≤ 100) : Does Tryd.prog 15 [grA g] (fun m => (sA (pGrant g), m)) := by
  obtain ⟨bare, hbare⟩ : ∃ bare : Atm, bare = { g.head with says := ⟨#[]⟩ } := ⟨_, rfl⟩
  have hbS : AtSz bare := by rw [hbare]; exact ⟨Nat.zero_le _, h1.2⟩
  have hz := ptext_size hbS
  have htx : ptext bare = tSays ++ psaid g.head := by
    rw [hbare]
    show ((⟨#[]⟩ : ByteArray) ++ tSays) ++ psaid _ = _
    rw [none_app (o := ⟨#[]⟩) (s := tSays) rfl, psaid_says]
  have cT := text_does bare hbS
  have cP := trim_does htx
  have hps : (psaid g.head).size ≤ 10000000 := by
    rw [htx, app_size] at hz
    omega
  obtain ⟨q1, q2, q3⟩ := h1
  obtain ⟨m0, hm0⟩ : ∃ m0 : Mm, m0 = ⟨[⟨false, (grC g).map AV.c⟩] ++ [⟨false, [.bld 81 false (.c (.v (.slice none 0 0)))]⟩], []⟩ := ⟨_, rfl⟩
  have hp0 : PgM m0 1 ⟨#[]⟩ := by rw [hm0]; exact fresh_page [⟨false, (grC g).map AV.c⟩] rfl
  have hp1 := hp0.add (cs := (atC bare).map .c) (fun i j => rfl)
  have hsz : (catB [g.head.says, tSays, g.tw, tCan, psaid g.head]).size ≤ 20000000 := by
    simp only [catB, app_size]
    have e1 : tSays.size = 6 := rfl
    have e2 : tCan.size = 8 := rfl
    have e0 : (⟨#[]⟩ : ByteArray).size = 0 := rfl
    rw [e1, e2]
    generalize (⟨#[]⟩ : ByteArray).size = z at *
    omega
  obtain ⟨m1, c1, p1, k1⟩ := put_page hp1 [g.head.says, tSays, g.tw, tCan, psaid g.head] true (Nat.le_of_ble_eq_true rfl) (by
    have e0 : (⟨#[]⟩ : ByteArray).size = 0 := rfl
    rw [e0]
    omega)
  rw [none_app rfl] at p1
  have hb0 := k1.old 0 ⟨false, (grC g).map AV.c⟩ rfl (by rw [hm0]; rfl)
  obtain ⟨m2, c2, p2, k2⟩ := body_page p1 g.body g.ex h3 h2 (by omega)
  obtain ⟨m3, c3⟩ := str_page p2
  have hb0 : m1.hp[0]? = some ⟨false, .c (.v (.string g.tw)) :: (([.c (.v (.string g.head.says)), .c (.v (.string g.head.pred)), .c (.v (.int .i64 g.head.n)), .c (.v (.bool g.head.a0.v)), .c (.v (.string g.head.a0.name)), .c (.v (.bool g.head.a1.v)), .c (.v (.string g.head.a1.name)), .c (.v (.bool g.head.a2.v)), .c (.v (.string g.head.a2.name)), .c (.v (.bool g.head.a3.v)), .c (.v (.string g.head.a3.name))] : List AV) ++ [.c (slC atC g.ex g.body)])⟩ := hb0
  simp only [List.cons_append, List.nil_append] at hb0
  rw [hm0, hbare] at c1
  have c1 : GivesW Tryd.prog 47 [.ptr 1 0, .c (.sl true 5 [.v (.string g.head.says), .v (.string tSays), .v (.string g.tw), .v (.string tCan), .v (.string (psaid g.head))])] ⟨[⟨false, (grC g).map AV.c⟩, ⟨false, [.bld 81 false (.c (.v (.slice none 0 0)))]⟩, ⟨false, (atC { g.head with says := ⟨#[]⟩ }).map AV.c⟩], []⟩ (.tup []) m1 := c1
  rw [hbare] at cT cP
  clear hm0 hbare
  refine does_of' Tryd.func15 rfl (by kernel_rfl) rfl Tryd.ntmps15 rfl rfl fun Q hQ => ?_
  repeat (first | refine tr_seq_k fun _ _ => ?_ | (refine tr_region ?_; simp only [go_sem, List.getElem?_toArray, str_beq, reduceCtorEq, Nat.reduceEqDiff, Nat.reduceLT, Nat.reduceLeDiff, Nat.reduceAdd, Nat.reduceMul, Nat.reduceSub, Nat.reduceBEq, ↓reduceIte, bne_self_eq_false, Bool.and_false, Bool.false_and, Bool.true_or, Bool.false_or, hb0]) | (refine tr_draw (id := 4) follows 9 [6, 7, 8, 9] [0, 1, 2, 3, 4, 5, 6, 7, 8, 9] (by kernel_rfl) ?_; simp only [go_sem, List.getElem?_toArray, str_beq, reduceCtorEq, Nat.reduceEqDiff, Nat.reduceLT, Nat.reduceLeDiff, Nat.reduceAdd, Nat.reduceMul, Nat.reduceSub, Nat.reduceBEq, ↓reduceIte, bne_self_eq_false, Bool.and_false, Bool.false_and, Bool.true_or, Bool.false_or, hb0]) | (refine call_of (cT) ?_ ?_; (first | rfl | simp only [go_sem, List.getElem?_toArray, str_beq, reduceCtorEq, Nat.reduceEqDiff, Nat.reduceLT, Nat.reduceLeDiff, Nat.reduceAdd, Nat.reduceMul, Nat.reduceSub, Nat.reduceBEq, ↓reduceIte, bne_self_eq_false, Bool.and_false, Bool.false_and, Bool.true_or, Bool.false_or, hb0, shut_col]); simp only [go_sem, List.getElem?_toArray, str_beq, reduceCtorEq, Nat.reduceEqDiff, Nat.reduceLT, Nat.reduceLeDiff, Nat.reduceAdd, Nat.reduceMul, Nat.reduceSub, Nat.reduceBEq, ↓reduceIte, bne_self_eq_false, Bool.and_false, Bool.false_and, Bool.true_or, Bool.false_or, hb0]) | (refine call_of (cP) ?_ ?_; (first | rfl | simp only [go_sem, List.getElem?_toArray, str_beq, reduceCtorEq, Nat.reduceEqDiff, Nat.reduceLT, Nat.reduceLeDiff, Nat.reduceAdd, Nat.reduceMul, Nat.reduceSub, Nat.reduceBEq, ↓reduceIte, bne_self_eq_false, Bool.and_false, Bool.false_and, Bool.true_or, Bool.false_or, hb0, shut_col]); simp only [go_sem, List.getElem?_toArray, str_beq, reduceCtorEq, Nat.reduceEqDiff, Nat.reduceLT, Nat.reduceLeDiff, Nat.reduceAdd, Nat.reduceMul, Nat.reduceSub, Nat.reduceBEq, ↓reduceIte, bne_self_eq_false, Bool.and_false, Bool.false_and, Bool.true_or, Bool.false_or, hb0]) | (refine call_givesW (c1) ?_; (try dsimp only); (try simp only [go_sem, List.getElem?_toArray, str_beq, reduceCtorEq, Nat.reduceEqDiff, Nat.reduceLT, Nat.reduceLeDiff, Nat.reduceAdd, Nat.reduceMul, Nat.reduceSub, Nat.reduceBEq, ↓reduceIte, bne_self_eq_false, Bool.and_false, Bool.false_and, Bool.true_or, Bool.false_or, hb0])) | (refine call_givesW (c2) ?_; (try dsimp only); (try simp only [go_sem, List.getElem?_toArray, str_beq, reduceCtorEq, Nat.reduceEqDiff, Nat.reduceLT, Nat.reduceLeDiff, Nat.reduceAdd, Nat.reduceMul, Nat.reduceSub, Nat.reduceBEq, ↓reduceIte, bne_self_eq_false, Bool.and_false, Bool.false_and, Bool.true_or, Bool.false_or, hb0])) | (refine call_givesW (c3) ?_; (try dsimp only); (try simp only [go_sem, List.getElem?_toArray, str_beq, reduceCtorEq, Nat.reduceEqDiff, Nat.reduceLT, Nat.reduceLeDiff, Nat.reduceAdd, Nat.reduceMul, Nat.reduceSub, Nat.reduceBEq, ↓reduceIte, bne_self_eq_false, Bool.and_false, Bool.false_and, Bool.true_or, Bool.false_or, hb0])) | refine k_of (by assumption) ?_ | refine tr_block ?_ | refine tr_scope ?_ | (refine tr_skip ?_; try simp only [ex_seq, ex_block]) | (refine tr_label ?_; try simp only [ex_seq, ex_block]) | (refine tr_exit ?_; try simp only [ex_seq_exit, ex_block_exit, Nat.reduceEqDiff, if_true, if_false, ex_seq, ex_block, reduceCtorEq, ↓reduceIte]) | (refine tr_ret ?_; try simp only [ex_seq_ret, ex_block_ret]))
  refine (hQ _ _ [sA (pGrant g)] ?_ (fun m => ?_)).2 <;> simp only [go_sem, List.getElem?_toArray, str_beq, reduceCtorEq, Nat.reduceEqDiff, Nat.reduceLT, Nat.reduceLeDiff, Nat.reduceAdd, Nat.reduceMul, Nat.reduceSub, Nat.reduceBEq, ↓reduceIte, bne_self_eq_false, Bool.and_false, Bool.false_and, Bool.true_or, Bool.false_or, Tryd.f15, pGrant]
abbrev tClr : ByteArray := ⟨#[99, 108, 101, 97, 114, 32]⟩
abbrev tCol : ByteArray := ⟨#[58]⟩
abbrev tSp : ByteArray := ⟨#[32]⟩
def pClear (c : Clr) : ByteArray := ((tClr ++ c.who) ++ tCol) ++ (if c.reads.length = 0 then ⟨#[]⟩ else tSp ++ joinB c.reads tComma)
theorem clear_does (c : Clr) (h1 : c.who.size ≤ 1000000) (h2 : c.reads.length ≤ 1000) (h3 : (joinB c.reads tComma).size ≤ 1000000) : Does Tryd.prog 19 [clA c] (fun m => (sA (pClear c), m)) := by
  have cJ := join_does c.reads tComma c.ex (by omega) (by omega)
  have z1 : tClr.size = 6 := rfl
  have z2 : tCol.size = 1 := rfl
  have z3 : tSp.size = 1 := rfl
  have a1 := sadd (a := tClr) (b := c.who) (n := 10000000) (by omega) (by decide)
  have a2 := sadd (a := tClr ++ c.who) (b := tCol) (n := 10000000) (by rw [app_size]; omega) (by decide)
  have a3 := sadd (a := tSp) (b := joinB c.reads tComma) (n := 10000000) (by omega) (by decide)
  have a4 := sadd (a := (tClr ++ c.who) ++ tCol) (b := tSp ++ joinB c.reads tComma) (n := 10000000) (by rw [app_size, app_size, app_size]; omega) (by decide)
  unfold pClear
  by_cases h0 : c.reads.length = 0
  · rw [if_pos h0, app_e]
    have d1 : decide (((c.reads.length : Nat) : Int) > 0) = false := decide_eq_false (by omega)
    refine does_of' Tryd.func19 rfl (by kernel_rfl) rfl Tryd.ntmps19 rfl rfl fun Q hQ => ?_
    repeat (first | refine tr_seq_k fun _ _ => ?_ | (refine tr_region ?_; simp only [go_sem, List.getElem?_toArray, str_beq, reduceCtorEq, Nat.reduceEqDiff, Nat.reduceLT, Nat.reduceLeDiff, Nat.reduceAdd, Nat.reduceMul, Nat.reduceSub, Nat.reduceBEq, ↓reduceIte, bne_self_eq_false, Bool.and_false, Bool.false_and, Bool.true_or, Bool.false_or, a1, a2, d1]) | refine k_of (by assumption) ?_ | refine tr_block ?_ | refine tr_scope ?_ | (refine tr_skip ?_; try simp only [ex_seq, ex_block]) | (refine tr_label ?_; try simp only [ex_seq, ex_block]) | (refine tr_exit ?_; try simp only [ex_seq_exit, ex_block_exit, Nat.reduceEqDiff, if_true, if_false, ex_seq, ex_block, reduceCtorEq, ↓reduceIte]) | (refine tr_ret ?_; try simp only [ex_seq_ret, ex_block_ret]))
    refine tr_cond rfl (fun ht => ?_) (fun hf => ?_)
    · cases ht
    · repeat (first | refine tr_seq_k fun _ _ => ?_ | (refine tr_region ?_; simp only [go_sem, List.getElem?_toArray, str_beq, reduceCtorEq, Nat.reduceEqDiff, Nat.reduceLT, Nat.reduceLeDiff, Nat.reduceAdd, Nat.reduceMul, Nat.reduceSub, Nat.reduceBEq, ↓reduceIte, bne_self_eq_false, Bool.and_false, Bool.false_and, Bool.true_or, Bool.false_or]) | refine k_of (by assumption) ?_ | refine tr_block ?_ | refine tr_scope ?_ | (refine tr_skip ?_; try simp only [ex_seq, ex_block]) | (refine tr_label ?_; try simp only [ex_seq, ex_block]) | (refine tr_exit ?_; try simp only [ex_seq_exit, ex_block_exit, Nat.reduceEqDiff, if_true, if_false, ex_seq, ex_block, reduceCtorEq, ↓reduceIte]) | (refine tr_ret ?_; try simp only [ex_seq_ret, ex_block_ret]))
      refine (hQ _ _ [sA ((tClr ++ c.who) ++ tCol)] ?_ (fun m => ?_)).2 <;> simp only [go_sem, List.getElem?_toArray, str_beq, reduceCtorEq, Nat.reduceEqDiff, Nat.reduceLT, Nat.reduceLeDiff, Nat.reduceAdd, Nat.reduceMul, Nat.reduceSub, Nat.reduceBEq, ↓reduceIte, bne_self_eq_false, Bool.and_false, Bool.false_and, Bool.true_or, Bool.false_or, Tryd.f19,]
  · rw [if_neg h0]
    have d1 : decide (((c.reads.length : Nat) : Int) > 0) = true := decide_eq_true (by omega)
    refine does_of' Tryd.func19 rfl (by kernel_rfl) rfl Tryd.ntmps19 rfl rfl fun Q hQ => ?_
    repeat (first | refine tr_seq_k fun _ _ => ?_ | (refine tr_region ?_; simp only [go_sem, List.getElem?_toArray, str_beq, reduceCtorEq, Nat.reduceEqDiff, Nat.reduceLT, Nat.reduceLeDiff, Nat.reduceAdd, Nat.reduceMul, Nat.reduceSub, Nat.reduceBEq, ↓reduceIte, bne_self_eq_false, Bool.and_false, Bool.false_and, Bool.true_or, Bool.false_or, a1, a2, d1]) | refine k_of (by assumption) ?_ | refine tr_block ?_ | refine tr_scope ?_ | (refine tr_skip ?_; try simp only [ex_seq, ex_block]) | (refine tr_label ?_; try simp only [ex_seq, ex_block]) | (refine tr_exit ?_; try simp only [ex_seq_exit, ex_block_exit, Nat.reduceEqDiff, if_true, if_false, ex_seq, ex_block, reduceCtorEq, ↓reduceIte]) | (refine tr_ret ?_; try simp only [ex_seq_ret, ex_block_ret]))
    refine tr_cond rfl (fun ht => ?_) (fun hf => ?_)
    · repeat (first | refine tr_seq_k fun _ _ => ?_ | (refine tr_region ?_; simp only [go_sem, List.getElem?_toArray, str_beq, reduceCtorEq, Nat.reduceEqDiff, Nat.reduceLT, Nat.reduceLeDiff, Nat.reduceAdd, Nat.reduceMul, Nat.reduceSub, Nat.reduceBEq, ↓reduceIte, bne_self_eq_false, Bool.and_false, Bool.false_and, Bool.true_or, Bool.false_or, a3, a4]) | (refine call_of (cJ) ?_ ?_; (first | rfl | simp only [go_sem, List.getElem?_toArray, str_beq, reduceCtorEq, Nat.reduceEqDiff, Nat.reduceLT, Nat.reduceLeDiff, Nat.reduceAdd, Nat.reduceMul, Nat.reduceSub, Nat.reduceBEq, ↓reduceIte, bne_self_eq_false, Bool.and_false, Bool.false_and, Bool.true_or, Bool.false_or, a3, a4, shut_col]); simp only [go_sem, List.getElem?_toArray, str_beq, reduceCtorEq, Nat.reduceEqDiff, Nat.reduceLT, Nat.reduceLeDiff, Nat.reduceAdd, Nat.reduceMul, Nat.reduceSub, Nat.reduceBEq, ↓reduceIte, bne_self_eq_false, Bool.and_false, Bool.false_and, Bool.true_or, Bool.false_or, a3, a4]) | refine k_of (by assumption) ?_ | refine tr_block ?_ | refine tr_scope ?_ | (refine tr_skip ?_; try simp only [ex_seq, ex_block]) | (refine tr_label ?_; try simp only [ex_seq, ex_block]) | (refine tr_exit ?_; try simp only [ex_seq_exit, ex_block_exit, Nat.reduceEqDiff, if_true, if_false, ex_seq, ex_block, reduceCtorEq, ↓reduceIte]) | (refine tr_ret ?_; try simp only [ex_seq_ret, ex_block_ret]))
      refine (hQ _ _ [sA (((tClr ++ c.who) ++ tCol) ++ (tSp ++ joinB c.reads tComma))] ?_ (fun m => ?_)).2 <;> simp only [go_sem, List.getElem?_toArray, str_beq, reduceCtorEq, Nat.reduceEqDiff, Nat.reduceLT, Nat.reduceLeDiff, Nat.reduceAdd, Nat.reduceMul, Nat.reduceSub, Nat.reduceBEq, ↓reduceIte, bne_self_eq_false, Bool.and_false, Bool.false_and, Bool.true_or, Bool.false_or, Tryd.f19,]
    · cases hf
/-! ### numbers -/
def itoaB (n : Int) : ByteArray := ⟨(Lib.itoa n).toArray⟩
theorem tab_var {w : World} (hg : Gl w) : Lib.TabIs Tryd.prog w "internal/strconv.uint64pow10" .u64 Lib.pow10Tab := by
  obtain ⟨t, z, h⟩ := hg _ (List.mem_cons_self ..)
  have hn : Tryd.prog.globalNamed "internal/strconv.uint64pow10" = some 0 := by kernel_rfl
  show w.var? Tryd.prog _ = _
  unfold World.var?
  rw [hn]
  show (match w.heap[0]? with | some (.cells cs _ _) => some cs | _ => none) = _
  rw [h]
  kernel_rfl
theorem itoaI_does (n : Int) (h0 : -9223372036854775808 ≤ n) (h1 : n ≤ 9223372036854775807) : Does Tryd.prog 37 [iA n] (fun m => (sA (itoaB n), m)) :=
  does_of_callsG (v := .string (itoaB n)) (callable_of Tryd.func37 (by kernel_rfl)) rfl fun X w vs hg hc hr => by
    obtain ⟨v, hv, r1⟩ := reps1 hr
    cases r1 with
    | c r1 =>
    cases r1
    have hvs : vs = #[.int .i64 n] := Array.ext' hv
    rw [hvs]
    refine (Tryd.strconv_Itoa n h0 h1 w (tab_var hg)).mono ?_
    rintro e w' ⟨he, k, os, hw⟩
    refine ⟨he, ?_⟩
    rw [hw]
    have hh : (Sort.grow (w.drewN k) os).heap = w.heap ++ os := rfl
    exact ⟨rfl, rfl, rfl, by rw [hh]; simp, fun j hj => by rw [hh, Array.getElem?_append_left hj]⟩
end Go.Proofs.YtaeehadibckcjaaDoor
namespace Go.Proofs.YtaeehadibckcjaaDoor
open Go.RowKit Go.Vs Go.Vs.Ab
set_option maxRecDepth 100000
set_option maxHeartbeats 4000000
theorem itoaB_size (n : Int) (h0 : -9223372036854775808 ≤ n) (h1 : n ≤ 9223372036854775807) : (itoaB n).size ≤ 21 := Lib.itoa_length_le n h0 h1
def cum {T : Type} (l : List T) (parts : T → List ByteArray) (k : Nat) : ByteArray := catB ((l.take k).map fun x => catB (parts x) ++ tDot)
theorem cum_zero {T : Type} (l : List T) (parts : T → List ByteArray) : cum l parts 0 = ⟨#[]⟩ := rfl
theorem cum_next {T : Type} {l : List T} (parts : T → List ByteArray) {k : Nat} (h : k < l.length) : cum l parts (k + 1) = cum l parts k ++ (catB (parts l[k]) ++ tDot) := by
  unfold cum
  rw [List.take_succ_eq_append_getElem h, List.map_append, List.map_singleton, catB_snoc]
theorem cum_size {T : Type} {l : List T} {parts : T → List ByteArray} (h : ∀ x ∈ l, (catB (parts x)).size ≤ 2000000000) : ∀ k, k ≤ l.length → (cum l parts k).size ≤ k * 2000000002
  | 0, _ => by rw [cum_zero]; exact Nat.zero_le _
  | k + 1, hk => by
    have ih := cum_size h k (by omega)
    have h2 := h l[k] (List.getElem_mem (by omega))
    have e1 : tDot.size = 2 := rfl
    rw [cum_next parts (by omega), app_size, app_size, e1]
    omega
theorem PgM.addL {b : Nat} {o : ByteArray} : ∀ (bs : List Blk) {m : Mm}, PgM m b o → (∀ blk ∈ bs, blk.fz = false ∧ ∀ i j, lows i j blk.cs = true) → PgM ⟨m.hp ++ bs, m.hw⟩ b o := fun bs => by
  induction bs with
  | nil => intro m h _; simpa using h
  | cons blk r ih =>
    intro m h hb
    obtain ⟨h1, h2⟩ := hb blk (by simp)
    have h3 := h.add (cs := blk.cs) h2
    obtain ⟨fz, cs⟩ := blk
    subst h1
    have h4 := ih h3 (fun y hy => hb y (by simp [hy]))
    simpa using h4
theorem items {T : Type} (l : List T) (parts : T → List ByteArray) (bl : T → List Blk) {m : Mm} {b : Nat} {o : ByteArray} (h : PgM m b o) (ho : o.size ≤ 50000000000000) (hl : l.length ≤ 1000)
    (hp : ∀ x ∈ l, (catB (parts x)).size ≤ 2000000000 ∧ (parts x).length ≤ 1000000) (hb : ∀ x, ∀ blk ∈ bl x, blk.fz = false ∧ ∀ i j, lows i j blk.cs = true) :
    ∃ ms : Nat → Mm, ms 0 = m ∧ (∀ k, k ≤ l.length → PgM (ms k) b (o ++ cum l parts k) ∧ KpP m (ms k)) ∧
      ∀ k, k < l.length → ∀ hk : k < l.length, GivesW Tryd.prog 36 [.ptr b 0, slS true (parts l[k])] ⟨(ms k).hp ++ bl l[k], (ms k).hw⟩ (.tup []) (ms (k + 1)) := by
  refine chain (fun k => o ++ cum l parts k) (fun k m' m2 => ∀ hk : k < l.length, GivesW Tryd.prog 36 [.ptr b 0, slS true (parts l[k])] ⟨m'.hp ++ bl l[k], m'.hw⟩ (.tup []) m2) (by
    show PgM m b (o ++ ⟨#[]⟩)
    rw [app_e]
    exact h) l.length (fun k hk m' hp' _ => ?_)
  obtain ⟨q1, q2⟩ := hp l[k] (List.getElem_mem hk)
  have hz := cum_size (fun x hx => (hp x hx).1) k (by omega)
  have hz2 : k * 2000000002 ≤ 1000 * 2000000002 := Nat.mul_le_mul_right _ (by omega)
  obtain ⟨m2, g1, g2, g3⟩ := line_page (PgM.addL (bl l[k]) hp' (hb l[k])) (parts l[k]) true q2 (by rw [app_size]; omega)
  refine ⟨m2, fun _ => g1, ?_, ⟨g3.hw, Nat.le_trans (by simp) g3.len, fun i blk hpl hi => g3.old i blk hpl (by show (m'.hp ++ _)[i]? = _; rw [List.getElem?_append_left (List.getElem?_eq_some_iff.1 hi).1]; exact hi)⟩⟩
  rw [cum_next parts hk, ← ByteArray.append_assoc, ← ByteArray.append_assoc]
  exact g2
abbrev tPrin : ByteArray := ⟨#[112, 114, 105, 110, 99, 105, 112, 97, 108, 32]⟩
abbrev tPred : ByteArray := ⟨#[112, 114, 101, 100, 32]⟩
abbrev tSl : ByteArray := ⟨#[47]⟩
abbrev tQuo : ByteArray := ⟨#[113, 117, 111, 116, 97, 32]⟩
abbrev tBud : ByteArray := ⟨#[98, 117, 100, 103, 101, 116, 32]⟩
def prPrin (s : ByteArray) : List ByteArray := [tPrin, s]
def prPred (x : Prd) : List ByteArray := [tPred, x.name, tSl, itoaB x.ar]
def prClr (c : Clr) : List ByteArray := [pClear c]
def prRul (r : Rul) : List ByteArray := [pRule r]
def prGrt (g : Grt) : List ByteArray := [pGrant g]
def all_ {T : Type} (l : List T) (parts : T → List ByteArray) : ByteArray := cum l parts l.length
def pPolicy (p : Pol) : ByteArray := (((((all_ p.prin prPrin ++ all_ p.preds prPred) ++ all_ p.clears prClr) ++ ((tQuo ++ itoaB p.quota) ++ tDot)) ++ ((tBud ++ itoaB p.budget) ++ tDot)) ++ all_ p.rules prRul) ++ all_ p.grants prGrt
structure PolOk (p : Pol) : Prop where
  prin : p.prin.length ≤ 1000 ∧ ∀ s ∈ p.prin, s.size ≤ 1000000
  preds : p.preds.length ≤ 1000 ∧ ∀ x ∈ p.preds, x.name.size ≤ 1000000 ∧ -9223372036854775808 ≤ x.ar ∧ x.ar ≤ 9223372036854775807
  clears : p.clears.length ≤ 1000 ∧ ∀ c ∈ p.clears, c.who.size ≤ 1000000 ∧ c.reads.length ≤ 1000 ∧ (joinB c.reads tComma).size ≤ 1000000
  quota : -9223372036854775808 ≤ p.quota ∧ p.quota ≤ 9223372036854775807
  budget : -9223372036854775808 ≤ p.budget ∧ p.budget ≤ 9223372036854775807
  rules : p.rules.length ≤ 1000 ∧ ∀ r ∈ p.rules, AtSz r.head ∧ (∀ a ∈ r.body, AtSz a) ∧ r.body.length ≤ 100
  grants : p.grants.length ≤ 1000 ∧ ∀ g ∈ p.grants, g.tw.size ≤ 1000000 ∧ AtSz g.head ∧ (∀ a ∈ g.body, AtSz a) ∧ g.body.length ≤ 100
theorem pbody_size {l : List Atm} (h : ∀ a ∈ l, AtSz a) (hl : l.length ≤ 100) : (pbody l).size ≤ 1000001000 := by
  have h1 := pbodyK_size h l.length
  have h2 : l.length * 10000010 ≤ 100 * 10000010 := Nat.mul_le_mul_right _ hl
  unfold pbody
  omega
theorem cat4 (x y z u : ByteArray) : (catB [x, y, z, u]).size = x.size + (y.size + (z.size + u.size)) := by
  show (x ++ (y ++ (z ++ (u ++ ⟨#[]⟩)))).size = _
  rw [app_e, app_size, app_size, app_size]
theorem low1 {b i j : Nat} {c : CV} {n k : Int} {s t u : Nat} (h0 : 0 < i) (h : b < i) : lowF i j [(1, .ptr 0 0), (3, .ptr b 0), (s, .c c), (t, iA n), (u, iA k)] = true := by
  simp only [lowF, low, Bool.and_true, Nat.blt_eq, Bool.and_eq_true]
  exact ⟨h0, h⟩
theorem pClear_size (c : Clr) (h1 : c.who.size ≤ 1000000) (h3 : (joinB c.reads tComma).size ≤ 1000000) : (pClear c).size ≤ 3000000 := by
  have z1 : tClr.size = 6 := rfl
  have z2 : tCol.size = 1 := rfl
  have z3 : tSp.size = 1 := rfl
  unfold pClear
  rw [app_size, app_size, app_size]
  split
  · have : (⟨#[]⟩ : ByteArray).size = 0 := rfl
    omega
  · rw [app_size]; omega
theorem pGrant_size (g : Grt) (h0 : g.tw.size ≤ 1000000) (h1 : AtSz g.head) (h2 : ∀ a ∈ g.body, AtSz a) (h3 : g.body.length ≤ 100) : (pGrant g).size ≤ 1500000000 := by
  have hb := pbody_size h2 h3
  have ht := ptext_size h1
  obtain ⟨q1, q2, q3⟩ := h1
  have hp : (psaid g.head).size ≤ 10000000 := by
    unfold ptext at ht
    rw [app_size] at ht
    omega
  have z1 : tSays.size = 6 := rfl
  have z2 : tCan.size = 8 := rfl
  unfold pGrant
  have hc : (catB [g.head.says, tSays, g.tw, tCan, psaid g.head]).size = g.head.says.size + (tSays.size + (g.tw.size + (tCan.size + (psaid g.head).size))) := by
    show (g.head.says ++ (tSays ++ (g.tw ++ (tCan ++ (psaid g.head ++ (⟨#[]⟩ : ByteArray)))))).size = _
    rw [app_e, app_size, app_size, app_size, app_size]
  rw [app_size, hc]
  omega
theorem idxS2 {ex : Bool} {l : List ByteArray} {k : Nat} (h : k < l.length) : aIndexAddr Tryd.prog 23 (.c (slC stC ex l)) (.c (.v (.int .i64 (k : Int)))) = some (.cptr (stC l[k] ++ (l.drop (k + 1)).flatMap stC)) := idxS' h
theorem polText_does (p : Pol) (hk : PolOk p) : Does Tryd.prog 10 [poA p] (fun m => (sA (pPolicy p), m)) := by
  have z1 : tPrin.size = 10 := rfl
  have z2 : tPred.size = 5 := rfl
  have z3 : tSl.size = 1 := rfl
  have z4 : tQuo.size = 6 := rfl
  have z5 : tBud.size = 7 := rfl
  have zD : tDot.size = 2 := rfl
  obtain ⟨m0, hm0⟩ : ∃ m0 : Mm, m0 = ⟨[⟨false, (poC p).map AV.c⟩] ++ [⟨false, [.bld 81 false (.c (.v (.slice none 0 0)))]⟩], []⟩ := ⟨_, rfl⟩
  have hp0 : PgM m0 1 ⟨#[]⟩ := by rw [hm0]; exact fresh_page [⟨false, (poC p).map AV.c⟩] rfl
  have hb0 : m0.hp[0]? = some ⟨false, [.c (slC stC p.e1 p.prin), .c (slC prC p.e2 p.preds), .c (slC clC p.e3 p.clears), iA p.quota, iA p.budget, .c (slC ruC p.e4 p.rules), .c (slC grC p.e5 p.grants)]⟩ := by rw [hm0]; rfl
  have hs1 : ∀ x ∈ p.prin, (catB (prPrin x)).size ≤ 2000000000 := fun x hx => by
    have hx := hk.prin.2 x hx; rw [prPrin, cat2, app_size]; omega
  obtain ⟨ms1, a1, b1, c1⟩ := items p.prin prPrin (fun _ => []) hp0 (Nat.zero_le _) hk.prin.1 (fun x hx => ⟨hs1 x hx, Nat.le_of_ble_eq_true rfl⟩) (fun x blk hb => by cases hb)
  obtain ⟨h1, k1⟩ := b1 p.prin.length (Nat.le_refl _)
  have q1 := cum_size hs1 p.prin.length (Nat.le_refl _)
  have r1 : p.prin.length * 2000000002 ≤ 1000 * 2000000002 := Nat.mul_le_mul_right _ hk.prin.1
  have hb1 := k1.old 0 _ rfl hb0
  rw [none_app rfl] at h1
  have hs2 : ∀ x ∈ p.preds, (catB (prPred x)).size ≤ 2000000000 := fun x hx => by
    have hx := hk.preds.2 x hx; have := itoaB_size x.ar hx.2.1 hx.2.2; rw [prPred, cat4]; omega
  obtain ⟨ms2, a2, b2, c2⟩ := items p.preds prPred (fun x => [⟨false, (prC x).map AV.c⟩]) h1 (by omega) hk.preds.1 (fun x hx => ⟨hs2 x hx, Nat.le_of_ble_eq_true rfl⟩) (fun x blk hb => by simp only [List.mem_singleton] at hb; subst hb; exact ⟨rfl, fun i j => rfl⟩)
  obtain ⟨h2, k2⟩ := b2 p.preds.length (Nat.le_refl _)
  have q2 := cum_size hs2 p.preds.length (Nat.le_refl _)
  have r2 : p.preds.length * 2000000002 ≤ 1000 * 2000000002 := Nat.mul_le_mul_right _ hk.preds.1
  have hb2 := k2.old 0 _ rfl hb1
  have hs3 : ∀ x ∈ p.clears, (catB (prClr x)).size ≤ 2000000000 := fun x hx => by
    have hx := hk.clears.2 x hx; rw [prClr, cat1]; have := pClear_size x hx.1 hx.2.2; omega
  obtain ⟨ms3, a3, b3, c3⟩ := items p.clears prClr (fun x => [⟨false, (clC x).map AV.c⟩]) h2 (by rw [app_size]; omega) hk.clears.1 (fun x hx => ⟨hs3 x hx, Nat.le_of_ble_eq_true rfl⟩) (fun x blk hb => by simp only [List.mem_singleton] at hb; subst hb; exact ⟨rfl, fun i j => rfl⟩)
  obtain ⟨h3, k3⟩ := b3 p.clears.length (Nat.le_refl _)
  have q3 := cum_size hs3 p.clears.length (Nat.le_refl _)
  have r3 : p.clears.length * 2000000002 ≤ 1000 * 2000000002 := Nat.mul_le_mul_right _ hk.clears.1
  have hb3 := k3.old 0 _ rfl hb2
  have iq := itoaB_size p.quota hk.quota.1 hk.quota.2
  have ib := itoaB_size p.budget hk.budget.1 hk.budget.2
  obtain ⟨mD, cD, hD, kD⟩ := line_page h3 [tQuo, itoaB p.quota] true (two_le _ _) (by rw [cat2, app_size, app_size, app_size]; omega)
  rw [cat2, ByteArray.append_assoc] at hD
  have hbD := kD.old 0 _ rfl hb3
  obtain ⟨mE, cE, hE, kE⟩ := line_page hD [tBud, itoaB p.budget] true (two_le _ _) (by rw [cat2, app_size, app_size, app_size, app_size, app_size, app_size]; omega)
  rw [cat2, ByteArray.append_assoc] at hE
  have hbE := kE.old 0 _ rfl hbD
  have hs4 : ∀ x ∈ p.rules, (catB (prRul x)).size ≤ 2000000000 := fun x hx => by
    have hx := hk.rules.2 x hx; rw [prRul, cat1, pRule, app_size]; have := pbody_size hx.2.1 hx.2.2; have := ptext_size hx.1; omega
  obtain ⟨ms4, a4, b4, c4⟩ := items p.rules prRul (fun x => [⟨false, (ruC x).map AV.c⟩]) hE (by simp only [app_size]; omega) hk.rules.1 (fun x hx => ⟨hs4 x hx, Nat.le_of_ble_eq_true rfl⟩) (fun x blk hb => by simp only [List.mem_singleton] at hb; subst hb; exact ⟨rfl, fun i j => rfl⟩)
  obtain ⟨h4, k4⟩ := b4 p.rules.length (Nat.le_refl _)
  have q4 := cum_size hs4 p.rules.length (Nat.le_refl _)
  have r4 : p.rules.length * 2000000002 ≤ 1000 * 2000000002 := Nat.mul_le_mul_right _ hk.rules.1
  have hb4 := k4.old 0 _ rfl hbE
  have hs5 : ∀ x ∈ p.grants, (catB (prGrt x)).size ≤ 2000000000 := fun x hx => by
    have hx := hk.grants.2 x hx; rw [prGrt, cat1]; have := pGrant_size x hx.1 hx.2.1 hx.2.2.1 hx.2.2.2; omega
  obtain ⟨ms5, a5, b5, c5⟩ := items p.grants prGrt (fun x => [⟨false, (grC x).map AV.c⟩]) h4 (by simp only [app_size]; omega) hk.grants.1 (fun x hx => ⟨hs5 x hx, Nat.le_of_ble_eq_true rfl⟩) (fun x blk hb => by simp only [List.mem_singleton] at hb; subst hb; exact ⟨rfl, fun i j => rfl⟩)
  obtain ⟨h5, k5⟩ := b5 p.grants.length (Nat.le_refl _)
  have q5 := cum_size hs5 p.grants.length (Nat.le_refl _)
  have r5 : p.grants.length * 2000000002 ≤ 1000 * 2000000002 := Nat.mul_le_mul_right _ hk.grants.1
  have hb5 := k5.old 0 _ rfl hb4
  obtain ⟨mH, cH⟩ := str_page h5
  have cH : GivesW Tryd.prog 38 [.ptr 1 0] (ms5 p.grants.length) (sA (pPolicy p)) mH := cH
  have cQ := itoaI_does p.quota hk.quota.1 hk.quota.2
  have cB := itoaI_does p.budget hk.budget.1 hk.budget.2
  have cD : GivesW Tryd.prog 36 [.ptr 1 0, .c (.sl true 2 [.v (.string tQuo), .v (.string (itoaB p.quota))])] (ms3 p.clears.length) (.tup []) mD := cD
  have cE : GivesW Tryd.prog 36 [.ptr 1 0, .c (.sl true 2 [.v (.string tBud), .v (.string (itoaB p.budget))])] mD (.tup []) mE := cE
  have l1 := (b1 0 (Nat.zero_le _)).1.lt
  clear hp0 hb0 hs1 hs2 hs3 hs4 hs5
  refine does_of' Tryd.func10 rfl (by kernel_rfl) rfl Tryd.ntmps10 rfl rfl fun Q hQ => ?_
  repeat (first | refine tr_seq_k fun _ _ => ?_ | (refine tr_region ?_; simp only [go_sem, List.getElem?_toArray, str_beq, reduceCtorEq, Nat.reduceEqDiff, Nat.reduceLT, Nat.reduceLeDiff, Nat.reduceAdd, Nat.reduceMul, Nat.reduceSub, Nat.reduceBEq, ↓reduceIte, bne_self_eq_false, Bool.and_false, Bool.false_and, Bool.true_or, Bool.false_or]) | (refine tr_draw (id := 10) follows 6 [4, 5, 6] [0, 1, 2, 3, 4, 5, 6] (by kernel_rfl) ?_; simp only [go_sem, List.getElem?_toArray, str_beq, reduceCtorEq, Nat.reduceEqDiff, Nat.reduceLT, Nat.reduceLeDiff, Nat.reduceAdd, Nat.reduceMul, Nat.reduceSub, Nat.reduceBEq, ↓reduceIte, bne_self_eq_false, Bool.and_false, Bool.false_and, Bool.true_or, Bool.false_or]) | refine k_of (by assumption) ?_ | refine tr_block ?_ | refine tr_scope ?_ | (refine tr_skip ?_; try simp only [ex_seq, ex_block]) | (refine tr_label ?_; try simp only [ex_seq, ex_block]) | (refine tr_exit ?_; try simp only [ex_seq_exit, ex_block_exit, Nat.reduceEqDiff, if_true, if_false, ex_seq, ex_block, reduceCtorEq, ↓reduceIte]) | (refine tr_ret ?_; try simp only [ex_seq_ret, ex_block_ret]))
  refine tr_loop_k (σ := Nat) (fun k => [(1, .ptr 0 0), (3, .ptr 1 0), (15, .c (slC stC p.e1 p.prin)), (16, iA p.prin.length), (17, iA k)]) (fun k => ms1 k) (fun k => k ≤ p.prin.length) (fun k => p.prin.length - k) 0 (Nat.zero_le _) ⟨rfl, rfl, rfl, rfl, rfl, trivial⟩ (by rw [a1, hm0]; rfl) ?_
  rintro k hkk K hK
  by_cases hkl : k < p.prin.length
  · have d1 : decide ((k : Int) < (p.prin.length : Nat)) = true := decide_eq_true (by omega)
    have ix := idxS2 (ex := p.e1) hkl
    have ws := wrap_succ (show k ≤ 1000000000 by have := hk.prin.1; omega)
    have cP := c1 k hkl hkl
    have hp := b1 (k + 1) hkl
    have hx := hk.prin.2 p.prin[k] (List.getElem_mem hkl)
    rw [List.append_nil] at cP
    generalize p.prin[k] = x at *
    have cP : GivesW Tryd.prog 36 [.ptr 1 0, .c (.sl true 2 [.v (.string tPrin), .v (.string x)])] (ms1 k) (.tup []) (ms1 (k + 1)) := cP
    repeat (first | refine tr_seq_k fun _ _ => ?_ | (refine tr_region ?_; simp only [go_sem, List.getElem?_toArray, str_beq, reduceCtorEq, Nat.reduceEqDiff, Nat.reduceLT, Nat.reduceLeDiff, Nat.reduceAdd, Nat.reduceMul, Nat.reduceSub, Nat.reduceBEq, ↓reduceIte, bne_self_eq_false, Bool.and_false, Bool.false_and, Bool.true_or, Bool.false_or, d1]) | (refine tr_draw (id := 10) follows 6 [4, 5, 6] [0, 1, 2, 3, 4, 5, 6] (by kernel_rfl) ?_; simp only [go_sem, List.getElem?_toArray, str_beq, reduceCtorEq, Nat.reduceEqDiff, Nat.reduceLT, Nat.reduceLeDiff, Nat.reduceAdd, Nat.reduceMul, Nat.reduceSub, Nat.reduceBEq, ↓reduceIte, bne_self_eq_false, Bool.and_false, Bool.false_and, Bool.true_or, Bool.false_or, d1]) | refine k_of (by assumption) ?_ | refine tr_block ?_ | refine tr_scope ?_ | (refine tr_skip ?_; try simp only [ex_seq, ex_block]) | (refine tr_label ?_; try simp only [ex_seq, ex_block]) | (refine tr_exit ?_; try simp only [ex_seq_exit, ex_block_exit, Nat.reduceEqDiff, if_true, if_false, ex_seq, ex_block, reduceCtorEq, ↓reduceIte]) | (refine tr_ret ?_; try simp only [ex_seq_ret, ex_block_ret]))
    refine tr_cond rfl (fun ht => ?_) (fun hf => ?_)
    · repeat (first | refine tr_seq_k fun _ _ => ?_ | (refine tr_region ?_; simp only [go_sem, List.getElem?_toArray, str_beq, reduceCtorEq, Nat.reduceEqDiff, Nat.reduceLT, Nat.reduceLeDiff, Nat.reduceAdd, Nat.reduceMul, Nat.reduceSub, Nat.reduceBEq, ↓reduceIte, bne_self_eq_false, Bool.and_false, Bool.false_and, Bool.true_or, Bool.false_or, ix, ws]) | (refine tr_draw (id := 10) follows 6 [4, 5, 6] [0, 1, 2, 3, 4, 5, 6] (by kernel_rfl) ?_; simp only [go_sem, List.getElem?_toArray, str_beq, reduceCtorEq, Nat.reduceEqDiff, Nat.reduceLT, Nat.reduceLeDiff, Nat.reduceAdd, Nat.reduceMul, Nat.reduceSub, Nat.reduceBEq, ↓reduceIte, bne_self_eq_false, Bool.and_false, Bool.false_and, Bool.true_or, Bool.false_or, ix, ws]) | (refine call_givesW (cP) ?_; (try dsimp only); (try simp only [go_sem, List.getElem?_toArray, str_beq, reduceCtorEq, Nat.reduceEqDiff, Nat.reduceLT, Nat.reduceLeDiff, Nat.reduceAdd, Nat.reduceMul, Nat.reduceSub, Nat.reduceBEq, ↓reduceIte, bne_self_eq_false, Bool.and_false, Bool.false_and, Bool.true_or, Bool.false_or, ix, ws])) | refine k_of (by assumption) ?_ | refine tr_block ?_ | refine tr_scope ?_ | (refine tr_skip ?_; try simp only [ex_seq, ex_block]) | (refine tr_label ?_; try simp only [ex_seq, ex_block]) | (refine tr_exit ?_; try simp only [ex_seq_exit, ex_block_exit, Nat.reduceEqDiff, if_true, if_false, ex_seq, ex_block, reduceCtorEq, ↓reduceIte]) | (refine tr_ret ?_; try simp only [ex_seq_ret, ex_block_ret]))
      exact hK (k + 1) _ _ hkl ⟨⟨rfl, rfl, rfl, rfl, rfl, trivial⟩, Keep.refl _, low1 (Nat.lt_trans Nat.zero_lt_one hp.1.lt) hp.1.lt, hp.1.wf, by rw [a1]; exact hp.2.len, by rw [a1, hp.2.hw]; exact Nat.le_refl _⟩ (by omega)
    · cases hf
  · have d1 : decide ((k : Int) < (p.prin.length : Nat)) = false := decide_eq_false (by omega)
    obtain rfl : k = p.prin.length := by omega
    repeat (first | refine tr_seq_k fun _ _ => ?_ | (refine tr_region ?_; simp only [go_sem, List.getElem?_toArray, str_beq, reduceCtorEq, Nat.reduceEqDiff, Nat.reduceLT, Nat.reduceLeDiff, Nat.reduceAdd, Nat.reduceMul, Nat.reduceSub, Nat.reduceBEq, ↓reduceIte, bne_self_eq_false, Bool.and_false, Bool.false_and, Bool.true_or, Bool.false_or, d1]) | (refine tr_draw (id := 10) follows 6 [4, 5, 6] [0, 1, 2, 3, 4, 5, 6] (by kernel_rfl) ?_; simp only [go_sem, List.getElem?_toArray, str_beq, reduceCtorEq, Nat.reduceEqDiff, Nat.reduceLT, Nat.reduceLeDiff, Nat.reduceAdd, Nat.reduceMul, Nat.reduceSub, Nat.reduceBEq, ↓reduceIte, bne_self_eq_false, Bool.and_false, Bool.false_and, Bool.true_or, Bool.false_or, d1]) | refine k_of (by assumption) ?_ | refine tr_block ?_ | refine tr_scope ?_ | (refine tr_skip ?_; try simp only [ex_seq, ex_block]) | (refine tr_label ?_; try simp only [ex_seq, ex_block]) | (refine tr_exit ?_; try simp only [ex_seq_exit, ex_block_exit, Nat.reduceEqDiff, if_true, if_false, ex_seq, ex_block, reduceCtorEq, ↓reduceIte]) | (refine tr_ret ?_; try simp only [ex_seq_ret, ex_block_ret]))
    refine tr_cond rfl (fun ht => ?_) (fun hf => ?_)
    · cases ht
    · repeat (first | refine tr_seq_k fun _ _ => ?_ | (refine tr_region ?_; simp only [go_sem, List.getElem?_toArray, str_beq, reduceCtorEq, Nat.reduceEqDiff, Nat.reduceLT, Nat.reduceLeDiff, Nat.reduceAdd, Nat.reduceMul, Nat.reduceSub, Nat.reduceBEq, ↓reduceIte, bne_self_eq_false, Bool.and_false, Bool.false_and, Bool.true_or, Bool.false_or, hb1]) | (refine tr_draw (id := 10) follows 6 [4, 5, 6] [0, 1, 2, 3, 4, 5, 6] (by kernel_rfl) ?_; simp only [go_sem, List.getElem?_toArray, str_beq, reduceCtorEq, Nat.reduceEqDiff, Nat.reduceLT, Nat.reduceLeDiff, Nat.reduceAdd, Nat.reduceMul, Nat.reduceSub, Nat.reduceBEq, ↓reduceIte, bne_self_eq_false, Bool.and_false, Bool.false_and, Bool.true_or, Bool.false_or, hb1]) | refine k_of (by assumption) ?_ | refine tr_block ?_ | refine tr_scope ?_ | (refine tr_skip ?_; try simp only [ex_seq, ex_block]) | (refine tr_label ?_; try simp only [ex_seq, ex_block]) | (refine tr_exit ?_; try simp only [ex_seq_exit, ex_block_exit, Nat.reduceEqDiff, if_true, if_false, ex_seq, ex_block, reduceCtorEq, ↓reduceIte]) | (refine tr_ret ?_; try simp only [ex_seq_ret, ex_block_ret]))
      refine tr_loop_k (σ := Nat) (fun k => [(1, .ptr 0 0), (3, .ptr 1 0), (26, .c (slC prC p.e2 p.preds)), (27, iA p.preds.length), (28, iA k)]) (fun k => ms2 k) (fun k => k ≤ p.preds.length) (fun k => p.preds.length - k) 0 (Nat.zero_le _) ⟨rfl, rfl, rfl, rfl, rfl, trivial⟩ (a2.symm) ?_
      rintro k hkk K hK
      by_cases hkl : k < p.preds.length
      · have d1 : decide ((k : Int) < (p.preds.length : Nat)) = true := decide_eq_true (by omega)
        have ix := idxP (ex := p.e2) hkl
        have ws := wrap_succ (show k ≤ 1000000000 by have := hk.preds.1; omega)
        have cP := c2 k hkl hkl
        have hp := b2 (k + 1) hkl
        have hx := hk.preds.2 p.preds[k] (List.getElem_mem hkl)
        have hA : ∀ x : Blk, ((ms2 k).hp ++ [x])[(ms2 k).hp.length]? = some x := fun x => by simp
        have hS : ∀ x y : Blk, ((ms2 k).hp ++ [x]).set (ms2 k).hp.length y = (ms2 k).hp ++ [y] := fun x y => by simp
        generalize p.preds[k] = x at *
        have cX := itoaI_does x.ar hx.2.1 hx.2.2
        have cP : GivesW Tryd.prog 36 [.ptr 1 0, .c (.sl true 4 [.v (.string tPred), .v (.string x.name), .v (.string tSl), .v (.string (itoaB x.ar))])] ⟨(ms2 k).hp ++ [⟨false, (prC x).map AV.c⟩], (ms2 k).hw⟩ (.tup []) (ms2 (k + 1)) := cP
        repeat (first | refine tr_seq_k fun _ _ => ?_ | (refine tr_region ?_; simp only [go_sem, List.getElem?_toArray, str_beq, reduceCtorEq, Nat.reduceEqDiff, Nat.reduceLT, Nat.reduceLeDiff, Nat.reduceAdd, Nat.reduceMul, Nat.reduceSub, Nat.reduceBEq, ↓reduceIte, bne_self_eq_false, Bool.and_false, Bool.false_and, Bool.true_or, Bool.false_or, d1]) | (refine tr_draw (id := 10) follows 6 [4, 5, 6] [0, 1, 2, 3, 4, 5, 6] (by kernel_rfl) ?_; simp only [go_sem, List.getElem?_toArray, str_beq, reduceCtorEq, Nat.reduceEqDiff, Nat.reduceLT, Nat.reduceLeDiff, Nat.reduceAdd, Nat.reduceMul, Nat.reduceSub, Nat.reduceBEq, ↓reduceIte, bne_self_eq_false, Bool.and_false, Bool.false_and, Bool.true_or, Bool.false_or, d1]) | refine k_of (by assumption) ?_ | refine tr_block ?_ | refine tr_scope ?_ | (refine tr_skip ?_; try simp only [ex_seq, ex_block]) | (refine tr_label ?_; try simp only [ex_seq, ex_block]) | (refine tr_exit ?_; try simp only [ex_seq_exit, ex_block_exit, Nat.reduceEqDiff, if_true, if_false, ex_seq, ex_block, reduceCtorEq, ↓reduceIte]) | (refine tr_ret ?_; try simp only [ex_seq_ret, ex_block_ret]))
        refine tr_cond rfl (fun ht => ?_) (fun hf => ?_)
        · repeat (first | refine tr_seq_k fun _ _ => ?_ | (refine tr_region ?_; simp only [go_sem, List.getElem?_toArray, str_beq, reduceCtorEq, Nat.reduceEqDiff, Nat.reduceLT, Nat.reduceLeDiff, Nat.reduceAdd, Nat.reduceMul, Nat.reduceSub, Nat.reduceBEq, ↓reduceIte, bne_self_eq_false, Bool.and_false, Bool.false_and, Bool.true_or, Bool.false_or, ix, ws, hA, hS]) | (refine tr_draw (id := 10) follows 6 [4, 5, 6] [0, 1, 2, 3, 4, 5, 6] (by kernel_rfl) ?_; simp only [go_sem, List.getElem?_toArray, str_beq, reduceCtorEq, Nat.reduceEqDiff, Nat.reduceLT, Nat.reduceLeDiff, Nat.reduceAdd, Nat.reduceMul, Nat.reduceSub, Nat.reduceBEq, ↓reduceIte, bne_self_eq_false, Bool.and_false, Bool.false_and, Bool.true_or, Bool.false_or, ix, ws, hA, hS]) | (refine call_of (cX) ?_ ?_; (first | rfl | simp only [go_sem, List.getElem?_toArray, str_beq, reduceCtorEq, Nat.reduceEqDiff, Nat.reduceLT, Nat.reduceLeDiff, Nat.reduceAdd, Nat.reduceMul, Nat.reduceSub, Nat.reduceBEq, ↓reduceIte, bne_self_eq_false, Bool.and_false, Bool.false_and, Bool.true_or, Bool.false_or, ix, ws, hA, hS, shut_col]); simp only [go_sem, List.getElem?_toArray, str_beq, reduceCtorEq, Nat.reduceEqDiff, Nat.reduceLT, Nat.reduceLeDiff, Nat.reduceAdd, Nat.reduceMul, Nat.reduceSub, Nat.reduceBEq, ↓reduceIte, bne_self_eq_false, Bool.and_false, Bool.false_and, Bool.true_or, Bool.false_or, ix, ws, hA, hS]) | (refine call_givesW (cP) ?_; (try dsimp only); (try simp only [go_sem, List.getElem?_toArray, str_beq, reduceCtorEq, Nat.reduceEqDiff, Nat.reduceLT, Nat.reduceLeDiff, Nat.reduceAdd, Nat.reduceMul, Nat.reduceSub, Nat.reduceBEq, ↓reduceIte, bne_self_eq_false, Bool.and_false, Bool.false_and, Bool.true_or, Bool.false_or, ix, ws, hA, hS])) | refine k_of (by assumption) ?_ | refine tr_block ?_ | refine tr_scope ?_ | (refine tr_skip ?_; try simp only [ex_seq, ex_block]) | (refine tr_label ?_; try simp only [ex_seq, ex_block]) | (refine tr_exit ?_; try simp only [ex_seq_exit, ex_block_exit, Nat.reduceEqDiff, if_true, if_false, ex_seq, ex_block, reduceCtorEq, ↓reduceIte]) | (refine tr_ret ?_; try simp only [ex_seq_ret, ex_block_ret]))
          exact hK (k + 1) _ _ hkl ⟨⟨rfl, rfl, rfl, rfl, rfl, trivial⟩, Keep.refl _, low1 (Nat.lt_trans Nat.zero_lt_one hp.1.lt) hp.1.lt, hp.1.wf, by rw [a2]; exact hp.2.len, by rw [a2, hp.2.hw]; exact Nat.le_refl _⟩ (by omega)
        · cases hf
      · have d1 : decide ((k : Int) < (p.preds.length : Nat)) = false := decide_eq_false (by omega)
        obtain rfl : k = p.preds.length := by omega
        repeat (first | refine tr_seq_k fun _ _ => ?_ | (refine tr_region ?_; simp only [go_sem, List.getElem?_toArray, str_beq, reduceCtorEq, Nat.reduceEqDiff, Nat.reduceLT, Nat.reduceLeDiff, Nat.reduceAdd, Nat.reduceMul, Nat.reduceSub, Nat.reduceBEq, ↓reduceIte, bne_self_eq_false, Bool.and_false, Bool.false_and, Bool.true_or, Bool.false_or, d1]) | (refine tr_draw (id := 10) follows 6 [4, 5, 6] [0, 1, 2, 3, 4, 5, 6] (by kernel_rfl) ?_; simp only [go_sem, List.getElem?_toArray, str_beq, reduceCtorEq, Nat.reduceEqDiff, Nat.reduceLT, Nat.reduceLeDiff, Nat.reduceAdd, Nat.reduceMul, Nat.reduceSub, Nat.reduceBEq, ↓reduceIte, bne_self_eq_false, Bool.and_false, Bool.false_and, Bool.true_or, Bool.false_or, d1]) | refine k_of (by assumption) ?_ | refine tr_block ?_ | refine tr_scope ?_ | (refine tr_skip ?_; try simp only [ex_seq, ex_block]) | (refine tr_label ?_; try simp only [ex_seq, ex_block]) | (refine tr_exit ?_; try simp only [ex_seq_exit, ex_block_exit, Nat.reduceEqDiff, if_true, if_false, ex_seq, ex_block, reduceCtorEq, ↓reduceIte]) | (refine tr_ret ?_; try simp only [ex_seq_ret, ex_block_ret]))
        refine tr_cond rfl (fun ht => ?_) (fun hf => ?_)
        · cases ht
        · repeat (first | refine tr_seq_k fun _ _ => ?_ | (refine tr_region ?_; simp only [go_sem, List.getElem?_toArray, str_beq, reduceCtorEq, Nat.reduceEqDiff, Nat.reduceLT, Nat.reduceLeDiff, Nat.reduceAdd, Nat.reduceMul, Nat.reduceSub, Nat.reduceBEq, ↓reduceIte, bne_self_eq_false, Bool.and_false, Bool.false_and, Bool.true_or, Bool.false_or, hb2]) | (refine tr_draw (id := 10) follows 6 [4, 5, 6] [0, 1, 2, 3, 4, 5, 6] (by kernel_rfl) ?_; simp only [go_sem, List.getElem?_toArray, str_beq, reduceCtorEq, Nat.reduceEqDiff, Nat.reduceLT, Nat.reduceLeDiff, Nat.reduceAdd, Nat.reduceMul, Nat.reduceSub, Nat.reduceBEq, ↓reduceIte, bne_self_eq_false, Bool.and_false, Bool.false_and, Bool.true_or, Bool.false_or, hb2]) | refine k_of (by assumption) ?_ | refine tr_block ?_ | refine tr_scope ?_ | (refine tr_skip ?_; try simp only [ex_seq, ex_block]) | (refine tr_label ?_; try simp only [ex_seq, ex_block]) | (refine tr_exit ?_; try simp only [ex_seq_exit, ex_block_exit, Nat.reduceEqDiff, if_true, if_false, ex_seq, ex_block, reduceCtorEq, ↓reduceIte]) | (refine tr_ret ?_; try simp only [ex_seq_ret, ex_block_ret]))
          refine tr_loop_k (σ := Nat) (fun k => [(1, .ptr 0 0), (3, .ptr 1 0), (41, .c (slC clC p.e3 p.clears)), (42, iA p.clears.length), (43, iA k)]) (fun k => ms3 k) (fun k => k ≤ p.clears.length) (fun k => p.clears.length - k) 0 (Nat.zero_le _) ⟨rfl, rfl, rfl, rfl, rfl, trivial⟩ (a3.symm) ?_
          rintro k hkk K hK
          by_cases hkl : k < p.clears.length
          · have d1 : decide ((k : Int) < (p.clears.length : Nat)) = true := decide_eq_true (by omega)
            have ix := idxC (ex := p.e3) hkl
            have ws := wrap_succ (show k ≤ 1000000000 by have := hk.clears.1; omega)
            have cP := c3 k hkl hkl
            have hp := b3 (k + 1) hkl
            have hx := hk.clears.2 p.clears[k] (List.getElem_mem hkl)
            have hA : ∀ x : Blk, ((ms3 k).hp ++ [x])[(ms3 k).hp.length]? = some x := fun x => by simp
            have hS : ∀ x y : Blk, ((ms3 k).hp ++ [x]).set (ms3 k).hp.length y = (ms3 k).hp ++ [y] := fun x y => by simp
            generalize p.clears[k] = x at *
            have cX := clear_does x hx.1 hx.2.1 hx.2.2
            have cP : GivesW Tryd.prog 36 [.ptr 1 0, .c (.sl true 1 [.v (.string (pClear x))])] ⟨(ms3 k).hp ++ [⟨false, (clC x).map AV.c⟩], (ms3 k).hw⟩ (.tup []) (ms3 (k + 1)) := cP
            repeat (first | refine tr_seq_k fun _ _ => ?_ | (refine tr_region ?_; simp only [go_sem, List.getElem?_toArray, str_beq, reduceCtorEq, Nat.reduceEqDiff, Nat.reduceLT, Nat.reduceLeDiff, Nat.reduceAdd, Nat.reduceMul, Nat.reduceSub, Nat.reduceBEq, ↓reduceIte, bne_self_eq_false, Bool.and_false, Bool.false_and, Bool.true_or, Bool.false_or, d1]) | (refine tr_draw (id := 10) follows 6 [4, 5, 6] [0, 1, 2, 3, 4, 5, 6] (by kernel_rfl) ?_; simp only [go_sem, List.getElem?_toArray, str_beq, reduceCtorEq, Nat.reduceEqDiff, Nat.reduceLT, Nat.reduceLeDiff, Nat.reduceAdd, Nat.reduceMul, Nat.reduceSub, Nat.reduceBEq, ↓reduceIte, bne_self_eq_false, Bool.and_false, Bool.false_and, Bool.true_or, Bool.false_or, d1]) | refine k_of (by assumption) ?_ | refine tr_block ?_ | refine tr_scope ?_ | (refine tr_skip ?_; try simp only [ex_seq, ex_block]) | (refine tr_label ?_; try simp only [ex_seq, ex_block]) | (refine tr_exit ?_; try simp only [ex_seq_exit, ex_block_exit, Nat.reduceEqDiff, if_true, if_false, ex_seq, ex_block, reduceCtorEq, ↓reduceIte]) | (refine tr_ret ?_; try simp only [ex_seq_ret, ex_block_ret]))
            refine tr_cond rfl (fun ht => ?_) (fun hf => ?_)
            · repeat (first | refine tr_seq_k fun _ _ => ?_ | (refine tr_region ?_; simp only [go_sem, List.getElem?_toArray, str_beq, reduceCtorEq, Nat.reduceEqDiff, Nat.reduceLT, Nat.reduceLeDiff, Nat.reduceAdd, Nat.reduceMul, Nat.reduceSub, Nat.reduceBEq, ↓reduceIte, bne_self_eq_false, Bool.and_false, Bool.false_and, Bool.true_or, Bool.false_or, ix, ws, hA, hS]) | (refine tr_draw (id := 10) follows 6 [4, 5, 6] [0, 1, 2, 3, 4, 5, 6] (by kernel_rfl) ?_; simp only [go_sem, List.getElem?_toArray, str_beq, reduceCtorEq, Nat.reduceEqDiff, Nat.reduceLT, Nat.reduceLeDiff, Nat.reduceAdd, Nat.reduceMul, Nat.reduceSub, Nat.reduceBEq, ↓reduceIte, bne_self_eq_false, Bool.and_false, Bool.false_and, Bool.true_or, Bool.false_or, ix, ws, hA, hS]) | (refine call_of (cX) ?_ ?_; (first | rfl | simp only [go_sem, List.getElem?_toArray, str_beq, reduceCtorEq, Nat.reduceEqDiff, Nat.reduceLT, Nat.reduceLeDiff, Nat.reduceAdd, Nat.reduceMul, Nat.reduceSub, Nat.reduceBEq, ↓reduceIte, bne_self_eq_false, Bool.and_false, Bool.false_and, Bool.true_or, Bool.false_or, ix, ws, hA, hS, shut_col]); simp only [go_sem, List.getElem?_toArray, str_beq, reduceCtorEq, Nat.reduceEqDiff, Nat.reduceLT, Nat.reduceLeDiff, Nat.reduceAdd, Nat.reduceMul, Nat.reduceSub, Nat.reduceBEq, ↓reduceIte, bne_self_eq_false, Bool.and_false, Bool.false_and, Bool.true_or, Bool.false_or, ix, ws, hA, hS]) | (refine call_givesW (cP) ?_; (try dsimp only); (try simp only [go_sem, List.getElem?_toArray, str_beq, reduceCtorEq, Nat.reduceEqDiff, Nat.reduceLT, Nat.reduceLeDiff, Nat.reduceAdd, Nat.reduceMul, Nat.reduceSub, Nat.reduceBEq, ↓reduceIte, bne_self_eq_false, Bool.and_false, Bool.false_and, Bool.true_or, Bool.false_or, ix, ws, hA, hS])) | refine k_of (by assumption) ?_ | refine tr_block ?_ | refine tr_scope ?_ | (refine tr_skip ?_; try simp only [ex_seq, ex_block]) | (refine tr_label ?_; try simp only [ex_seq, ex_block]) | (refine tr_exit ?_; try simp only [ex_seq_exit, ex_block_exit, Nat.reduceEqDiff, if_true, if_false, ex_seq, ex_block, reduceCtorEq, ↓reduceIte]) | (refine tr_ret ?_; try simp only [ex_seq_ret, ex_block_ret]))
              exact hK (k + 1) _ _ hkl ⟨⟨rfl, rfl, rfl, rfl, rfl, trivial⟩, Keep.refl _, low1 (Nat.lt_trans Nat.zero_lt_one hp.1.lt) hp.1.lt, hp.1.wf, by rw [a3]; exact hp.2.len, by rw [a3, hp.2.hw]; exact Nat.le_refl _⟩ (by omega)
            · cases hf
          · have d1 : decide ((k : Int) < (p.clears.length : Nat)) = false := decide_eq_false (by omega)
            obtain rfl : k = p.clears.length := by omega
            repeat (first | refine tr_seq_k fun _ _ => ?_ | (refine tr_region ?_; simp only [go_sem, List.getElem?_toArray, str_beq, reduceCtorEq, Nat.reduceEqDiff, Nat.reduceLT, Nat.reduceLeDiff, Nat.reduceAdd, Nat.reduceMul, Nat.reduceSub, Nat.reduceBEq, ↓reduceIte, bne_self_eq_false, Bool.and_false, Bool.false_and, Bool.true_or, Bool.false_or, d1]) | (refine tr_draw (id := 10) follows 6 [4, 5, 6] [0, 1, 2, 3, 4, 5, 6] (by kernel_rfl) ?_; simp only [go_sem, List.getElem?_toArray, str_beq, reduceCtorEq, Nat.reduceEqDiff, Nat.reduceLT, Nat.reduceLeDiff, Nat.reduceAdd, Nat.reduceMul, Nat.reduceSub, Nat.reduceBEq, ↓reduceIte, bne_self_eq_false, Bool.and_false, Bool.false_and, Bool.true_or, Bool.false_or, d1]) | refine k_of (by assumption) ?_ | refine tr_block ?_ | refine tr_scope ?_ | (refine tr_skip ?_; try simp only [ex_seq, ex_block]) | (refine tr_label ?_; try simp only [ex_seq, ex_block]) | (refine tr_exit ?_; try simp only [ex_seq_exit, ex_block_exit, Nat.reduceEqDiff, if_true, if_false, ex_seq, ex_block, reduceCtorEq, ↓reduceIte]) | (refine tr_ret ?_; try simp only [ex_seq_ret, ex_block_ret]))
            refine tr_cond rfl (fun ht => ?_) (fun hf => ?_)
            · cases ht
            · repeat (first | refine tr_seq_k fun _ _ => ?_ | (refine tr_region ?_; simp only [go_sem, List.getElem?_toArray, str_beq, reduceCtorEq, Nat.reduceEqDiff, Nat.reduceLT, Nat.reduceLeDiff, Nat.reduceAdd, Nat.reduceMul, Nat.reduceSub, Nat.reduceBEq, ↓reduceIte, bne_self_eq_false, Bool.and_false, Bool.false_and, Bool.true_or, Bool.false_or, hb3, hbD, hbE]) | (refine tr_draw (id := 10) follows 6 [4, 5, 6] [0, 1, 2, 3, 4, 5, 6] (by kernel_rfl) ?_; simp only [go_sem, List.getElem?_toArray, str_beq, reduceCtorEq, Nat.reduceEqDiff, Nat.reduceLT, Nat.reduceLeDiff, Nat.reduceAdd, Nat.reduceMul, Nat.reduceSub, Nat.reduceBEq, ↓reduceIte, bne_self_eq_false, Bool.and_false, Bool.false_and, Bool.true_or, Bool.false_or, hb3, hbD, hbE]) | (refine call_of (cQ) ?_ ?_; (first | rfl | simp only [go_sem, List.getElem?_toArray, str_beq, reduceCtorEq, Nat.reduceEqDiff, Nat.reduceLT, Nat.reduceLeDiff, Nat.reduceAdd, Nat.reduceMul, Nat.reduceSub, Nat.reduceBEq, ↓reduceIte, bne_self_eq_false, Bool.and_false, Bool.false_and, Bool.true_or, Bool.false_or, hb3, hbD, hbE, shut_col]); simp only [go_sem, List.getElem?_toArray, str_beq, reduceCtorEq, Nat.reduceEqDiff, Nat.reduceLT, Nat.reduceLeDiff, Nat.reduceAdd, Nat.reduceMul, Nat.reduceSub, Nat.reduceBEq, ↓reduceIte, bne_self_eq_false, Bool.and_false, Bool.false_and, Bool.true_or, Bool.false_or, hb3, hbD, hbE]) | (refine call_of (cB) ?_ ?_; (first | rfl | simp only [go_sem, List.getElem?_toArray, str_beq, reduceCtorEq, Nat.reduceEqDiff, Nat.reduceLT, Nat.reduceLeDiff, Nat.reduceAdd, Nat.reduceMul, Nat.reduceSub, Nat.reduceBEq, ↓reduceIte, bne_self_eq_false, Bool.and_false, Bool.false_and, Bool.true_or, Bool.false_or, hb3, hbD, hbE, shut_col]); simp only [go_sem, List.getElem?_toArray, str_beq, reduceCtorEq, Nat.reduceEqDiff, Nat.reduceLT, Nat.reduceLeDiff, Nat.reduceAdd, Nat.reduceMul, Nat.reduceSub, Nat.reduceBEq, ↓reduceIte, bne_self_eq_false, Bool.and_false, Bool.false_and, Bool.true_or, Bool.false_or, hb3, hbD, hbE]) | (refine call_givesW (cD) ?_; (try dsimp only); (try simp only [go_sem, List.getElem?_toArray, str_beq, reduceCtorEq, Nat.reduceEqDiff, Nat.reduceLT, Nat.reduceLeDiff, Nat.reduceAdd, Nat.reduceMul, Nat.reduceSub, Nat.reduceBEq, ↓reduceIte, bne_self_eq_false, Bool.and_false, Bool.false_and, Bool.true_or, Bool.false_or, hb3, hbD, hbE])) | (refine call_givesW (cE) ?_; (try dsimp only); (try simp only [go_sem, List.getElem?_toArray, str_beq, reduceCtorEq, Nat.reduceEqDiff, Nat.reduceLT, Nat.reduceLeDiff, Nat.reduceAdd, Nat.reduceMul, Nat.reduceSub, Nat.reduceBEq, ↓reduceIte, bne_self_eq_false, Bool.and_false, Bool.false_and, Bool.true_or, Bool.false_or, hb3, hbD, hbE])) | refine k_of (by assumption) ?_ | refine tr_block ?_ | refine tr_scope ?_ | (refine tr_skip ?_; try simp only [ex_seq, ex_block]) | (refine tr_label ?_; try simp only [ex_seq, ex_block]) | (refine tr_exit ?_; try simp only [ex_seq_exit, ex_block_exit, Nat.reduceEqDiff, if_true, if_false, ex_seq, ex_block, reduceCtorEq, ↓reduceIte]) | (refine tr_ret ?_; try simp only [ex_seq_ret, ex_block_ret]))
              refine tr_loop_k (σ := Nat) (fun k => [(1, .ptr 0 0), (3, .ptr 1 0), (63, .c (slC ruC p.e4 p.rules)), (64, iA p.rules.length), (65, iA k)]) (fun k => ms4 k) (fun k => k ≤ p.rules.length) (fun k => p.rules.length - k) 0 (Nat.zero_le _) ⟨rfl, rfl, rfl, rfl, rfl, trivial⟩ (a4.symm) ?_
              rintro k hkk K hK
              by_cases hkl : k < p.rules.length
              · have d1 : decide ((k : Int) < (p.rules.length : Nat)) = true := decide_eq_true (by omega)
                have ix := idxRu (ex := p.e4) hkl
                have ws := wrap_succ (show k ≤ 1000000000 by have := hk.rules.1; omega)
                have cP := c4 k hkl hkl
                have hp := b4 (k + 1) hkl
                have hx := hk.rules.2 p.rules[k] (List.getElem_mem hkl)
                have hA : ∀ x : Blk, ((ms4 k).hp ++ [x])[(ms4 k).hp.length]? = some x := fun x => by simp
                have hS : ∀ x y : Blk, ((ms4 k).hp ++ [x]).set (ms4 k).hp.length y = (ms4 k).hp ++ [y] := fun x y => by simp
                generalize p.rules[k] = x at *
                have cX := rule_does x hx.1 hx.2.1 hx.2.2
                have cP : GivesW Tryd.prog 36 [.ptr 1 0, .c (.sl true 1 [.v (.string (pRule x))])] ⟨(ms4 k).hp ++ [⟨false, (ruC x).map AV.c⟩], (ms4 k).hw⟩ (.tup []) (ms4 (k + 1)) := cP
                repeat (first | refine tr_seq_k fun _ _ => ?_ | (refine tr_region ?_; simp only [go_sem, List.getElem?_toArray, str_beq, reduceCtorEq, Nat.reduceEqDiff, Nat.reduceLT, Nat.reduceLeDiff, Nat.reduceAdd, Nat.reduceMul, Nat.reduceSub, Nat.reduceBEq, ↓reduceIte, bne_self_eq_false, Bool.and_false, Bool.false_and, Bool.true_or, Bool.false_or, d1]) | (refine tr_draw (id := 10) follows 6 [4, 5, 6] [0, 1, 2, 3, 4, 5, 6] (by kernel_rfl) ?_; simp only [go_sem, List.getElem?_toArray, str_beq, reduceCtorEq, Nat.reduceEqDiff, Nat.reduceLT, Nat.reduceLeDiff, Nat.reduceAdd, Nat.reduceMul, Nat.reduceSub, Nat.reduceBEq, ↓reduceIte, bne_self_eq_false, Bool.and_false, Bool.false_and, Bool.true_or, Bool.false_or, d1]) | refine k_of (by assumption) ?_ | refine tr_block ?_ | refine tr_scope ?_ | (refine tr_skip ?_; try simp only [ex_seq, ex_block]) | (refine tr_label ?_; try simp only [ex_seq, ex_block]) | (refine tr_exit ?_; try simp only [ex_seq_exit, ex_block_exit, Nat.reduceEqDiff, if_true, if_false, ex_seq, ex_block, reduceCtorEq, ↓reduceIte]) | (refine tr_ret ?_; try simp only [ex_seq_ret, ex_block_ret]))
                refine tr_cond rfl (fun ht => ?_) (fun hf => ?_)
                · repeat (first | refine tr_seq_k fun _ _ => ?_ | (refine tr_region ?_; simp only [go_sem, List.getElem?_toArray, str_beq, reduceCtorEq, Nat.reduceEqDiff, Nat.reduceLT, Nat.reduceLeDiff, Nat.reduceAdd, Nat.reduceMul, Nat.reduceSub, Nat.reduceBEq, ↓reduceIte, bne_self_eq_false, Bool.and_false, Bool.false_and, Bool.true_or, Bool.false_or, ix, ws, hA, hS]) | (refine tr_draw (id := 10) follows 6 [4, 5, 6] [0, 1, 2, 3, 4, 5, 6] (by kernel_rfl) ?_; simp only [go_sem, List.getElem?_toArray, str_beq, reduceCtorEq, Nat.reduceEqDiff, Nat.reduceLT, Nat.reduceLeDiff, Nat.reduceAdd, Nat.reduceMul, Nat.reduceSub, Nat.reduceBEq, ↓reduceIte, bne_self_eq_false, Bool.and_false, Bool.false_and, Bool.true_or, Bool.false_or, ix, ws, hA, hS]) | (refine call_of (cX) ?_ ?_; (first | rfl | simp only [go_sem, List.getElem?_toArray, str_beq, reduceCtorEq, Nat.reduceEqDiff, Nat.reduceLT, Nat.reduceLeDiff, Nat.reduceAdd, Nat.reduceMul, Nat.reduceSub, Nat.reduceBEq, ↓reduceIte, bne_self_eq_false, Bool.and_false, Bool.false_and, Bool.true_or, Bool.false_or, ix, ws, hA, hS, shut_col]); simp only [go_sem, List.getElem?_toArray, str_beq, reduceCtorEq, Nat.reduceEqDiff, Nat.reduceLT, Nat.reduceLeDiff, Nat.reduceAdd, Nat.reduceMul, Nat.reduceSub, Nat.reduceBEq, ↓reduceIte, bne_self_eq_false, Bool.and_false, Bool.false_and, Bool.true_or, Bool.false_or, ix, ws, hA, hS]) | (refine call_givesW (cP) ?_; (try dsimp only); (try simp only [go_sem, List.getElem?_toArray, str_beq, reduceCtorEq, Nat.reduceEqDiff, Nat.reduceLT, Nat.reduceLeDiff, Nat.reduceAdd, Nat.reduceMul, Nat.reduceSub, Nat.reduceBEq, ↓reduceIte, bne_self_eq_false, Bool.and_false, Bool.false_and, Bool.true_or, Bool.false_or, ix, ws, hA, hS])) | refine k_of (by assumption) ?_ | refine tr_block ?_ | refine tr_scope ?_ | (refine tr_skip ?_; try simp only [ex_seq, ex_block]) | (refine tr_label ?_; try simp only [ex_seq, ex_block]) | (refine tr_exit ?_; try simp only [ex_seq_exit, ex_block_exit, Nat.reduceEqDiff, if_true, if_false, ex_seq, ex_block, reduceCtorEq, ↓reduceIte]) | (refine tr_ret ?_; try simp only [ex_seq_ret, ex_block_ret]))
                  exact hK (k + 1) _ _ hkl ⟨⟨rfl, rfl, rfl, rfl, rfl, trivial⟩, Keep.refl _, low1 (Nat.lt_trans Nat.zero_lt_one hp.1.lt) hp.1.lt, hp.1.wf, by rw [a4]; exact hp.2.len, by rw [a4, hp.2.hw]; exact Nat.le_refl _⟩ (by omega)
                · cases hf
              · have d1 : decide ((k : Int) < (p.rules.length : Nat)) = false := decide_eq_false (by omega)
                obtain rfl : k = p.rules.length := by omega
                repeat (first | refine tr_seq_k fun _ _ => ?_ | (refine tr_region ?_; simp only [go_sem, List.getElem?_toArray, str_beq, reduceCtorEq, Nat.reduceEqDiff, Nat.reduceLT, Nat.reduceLeDiff, Nat.reduceAdd, Nat.reduceMul, Nat.reduceSub, Nat.reduceBEq, ↓reduceIte, bne_self_eq_false, Bool.and_false, Bool.false_and, Bool.true_or, Bool.false_or, d1]) | (refine tr_draw (id := 10) follows 6 [4, 5, 6] [0, 1, 2, 3, 4, 5, 6] (by kernel_rfl) ?_; simp only [go_sem, List.getElem?_toArray, str_beq, reduceCtorEq, Nat.reduceEqDiff, Nat.reduceLT, Nat.reduceLeDiff, Nat.reduceAdd, Nat.reduceMul, Nat.reduceSub, Nat.reduceBEq, ↓reduceIte, bne_self_eq_false, Bool.and_false, Bool.false_and, Bool.true_or, Bool.false_or, d1]) | refine k_of (by assumption) ?_ | refine tr_block ?_ | refine tr_scope ?_ | (refine tr_skip ?_; try simp only [ex_seq, ex_block]) | (refine tr_label ?_; try simp only [ex_seq, ex_block]) | (refine tr_exit ?_; try simp only [ex_seq_exit, ex_block_exit, Nat.reduceEqDiff, if_true, if_false, ex_seq, ex_block, reduceCtorEq, ↓reduceIte]) | (refine tr_ret ?_; try simp only [ex_seq_ret, ex_block_ret]))
                refine tr_cond rfl (fun ht => ?_) (fun hf => ?_)
                · cases ht
                · repeat (first | refine tr_seq_k fun _ _ => ?_ | (refine tr_region ?_; simp only [go_sem, List.getElem?_toArray, str_beq, reduceCtorEq, Nat.reduceEqDiff, Nat.reduceLT, Nat.reduceLeDiff, Nat.reduceAdd, Nat.reduceMul, Nat.reduceSub, Nat.reduceBEq, ↓reduceIte, bne_self_eq_false, Bool.and_false, Bool.false_and, Bool.true_or, Bool.false_or, hb4]) | (refine tr_draw (id := 10) follows 6 [4, 5, 6] [0, 1, 2, 3, 4, 5, 6] (by kernel_rfl) ?_; simp only [go_sem, List.getElem?_toArray, str_beq, reduceCtorEq, Nat.reduceEqDiff, Nat.reduceLT, Nat.reduceLeDiff, Nat.reduceAdd, Nat.reduceMul, Nat.reduceSub, Nat.reduceBEq, ↓reduceIte, bne_self_eq_false, Bool.and_false, Bool.false_and, Bool.true_or, Bool.false_or, hb4]) | refine k_of (by assumption) ?_ | refine tr_block ?_ | refine tr_scope ?_ | (refine tr_skip ?_; try simp only [ex_seq, ex_block]) | (refine tr_label ?_; try simp only [ex_seq, ex_block]) | (refine tr_exit ?_; try simp only [ex_seq_exit, ex_block_exit, Nat.reduceEqDiff, if_true, if_false, ex_seq, ex_block, reduceCtorEq, ↓reduceIte]) | (refine tr_ret ?_; try simp only [ex_seq_ret, ex_block_ret]))
                  refine tr_loop_k (σ := Nat) (fun k => [(1, .ptr 0 0), (3, .ptr 1 0), (75, .c (slC grC p.e5 p.grants)), (76, iA p.grants.length), (77, iA k)]) (fun k => ms5 k) (fun k => k ≤ p.grants.length) (fun k => p.grants.length - k) 0 (Nat.zero_le _) ⟨rfl, rfl, rfl, rfl, rfl, trivial⟩ (a5.symm) ?_
                  rintro k hkk K hK
                  by_cases hkl : k < p.grants.length
                  · have d1 : decide ((k : Int) < (p.grants.length : Nat)) = true := decide_eq_true (by omega)
                    have ix := idxGr (ex := p.e5) hkl
                    have ws := wrap_succ (show k ≤ 1000000000 by have := hk.grants.1; omega)
                    have cP := c5 k hkl hkl
                    have hp := b5 (k + 1) hkl
                    have hx := hk.grants.2 p.grants[k] (List.getElem_mem hkl)
                    have hA : ∀ x : Blk, ((ms5 k).hp ++ [x])[(ms5 k).hp.length]? = some x := fun x => by simp
                    have hS : ∀ x y : Blk, ((ms5 k).hp ++ [x]).set (ms5 k).hp.length y = (ms5 k).hp ++ [y] := fun x y => by simp
                    generalize p.grants[k] = x at *
                    have cX := grant_does x hx.1 hx.2.1 hx.2.2.1 hx.2.2.2
                    have cP : GivesW Tryd.prog 36 [.ptr 1 0, .c (.sl true 1 [.v (.string (pGrant x))])] ⟨(ms5 k).hp ++ [⟨false, (grC x).map AV.c⟩], (ms5 k).hw⟩ (.tup []) (ms5 (k + 1)) := cP
                    repeat (first | refine tr_seq_k fun _ _ => ?_ | (refine tr_region ?_; simp only [go_sem, List.getElem?_toArray, str_beq, reduceCtorEq, Nat.reduceEqDiff, Nat.reduceLT, Nat.reduceLeDiff, Nat.reduceAdd, Nat.reduceMul, Nat.reduceSub, Nat.reduceBEq, ↓reduceIte, bne_self_eq_false, Bool.and_false, Bool.false_and, Bool.true_or, Bool.false_or, d1]) | (refine tr_draw (id := 10) follows 6 [4, 5, 6] [0, 1, 2, 3, 4, 5, 6] (by kernel_rfl) ?_; simp only [go_sem, List.getElem?_toArray, str_beq, reduceCtorEq, Nat.reduceEqDiff, Nat.reduceLT, Nat.reduceLeDiff, Nat.reduceAdd, Nat.reduceMul, Nat.reduceSub, Nat.reduceBEq, ↓reduceIte, bne_self_eq_false, Bool.and_false, Bool.false_and, Bool.true_or, Bool.false_or, d1]) | refine k_of (by assumption) ?_ | refine tr_block ?_ | refine tr_scope ?_ | (refine tr_skip ?_; try simp only [ex_seq, ex_block]) | (refine tr_label ?_; try simp only [ex_seq, ex_block]) | (refine tr_exit ?_; try simp only [ex_seq_exit, ex_block_exit, Nat.reduceEqDiff, if_true, if_false, ex_seq, ex_block, reduceCtorEq, ↓reduceIte]) | (refine tr_ret ?_; try simp only [ex_seq_ret, ex_block_ret]))
                    refine tr_cond rfl (fun ht => ?_) (fun hf => ?_)
                    · repeat (first | refine tr_seq_k fun _ _ => ?_ | (refine tr_region ?_; simp only [go_sem, List.getElem?_toArray, str_beq, reduceCtorEq, Nat.reduceEqDiff, Nat.reduceLT, Nat.reduceLeDiff, Nat.reduceAdd, Nat.reduceMul, Nat.reduceSub, Nat.reduceBEq, ↓reduceIte, bne_self_eq_false, Bool.and_false, Bool.false_and, Bool.true_or, Bool.false_or, ix, ws, hA, hS]) | (refine tr_draw (id := 10) follows 6 [4, 5, 6] [0, 1, 2, 3, 4, 5, 6] (by kernel_rfl) ?_; simp only [go_sem, List.getElem?_toArray, str_beq, reduceCtorEq, Nat.reduceEqDiff, Nat.reduceLT, Nat.reduceLeDiff, Nat.reduceAdd, Nat.reduceMul, Nat.reduceSub, Nat.reduceBEq, ↓reduceIte, bne_self_eq_false, Bool.and_false, Bool.false_and, Bool.true_or, Bool.false_or, ix, ws, hA, hS]) | (refine call_of (cX) ?_ ?_; (first | rfl | simp only [go_sem, List.getElem?_toArray, str_beq, reduceCtorEq, Nat.reduceEqDiff, Nat.reduceLT, Nat.reduceLeDiff, Nat.reduceAdd, Nat.reduceMul, Nat.reduceSub, Nat.reduceBEq, ↓reduceIte, bne_self_eq_false, Bool.and_false, Bool.false_and, Bool.true_or, Bool.false_or, ix, ws, hA, hS, shut_col]); simp only [go_sem, List.getElem?_toArray, str_beq, reduceCtorEq, Nat.reduceEqDiff, Nat.reduceLT, Nat.reduceLeDiff, Nat.reduceAdd, Nat.reduceMul, Nat.reduceSub, Nat.reduceBEq, ↓reduceIte, bne_self_eq_false, Bool.and_false, Bool.false_and, Bool.true_or, Bool.false_or, ix, ws, hA, hS]) | (refine call_givesW (cP) ?_; (try dsimp only); (try simp only [go_sem, List.getElem?_toArray, str_beq, reduceCtorEq, Nat.reduceEqDiff, Nat.reduceLT, Nat.reduceLeDiff, Nat.reduceAdd, Nat.reduceMul, Nat.reduceSub, Nat.reduceBEq, ↓reduceIte, bne_self_eq_false, Bool.and_false, Bool.false_and, Bool.true_or, Bool.false_or, ix, ws, hA, hS])) | refine k_of (by assumption) ?_ | refine tr_block ?_ | refine tr_scope ?_ | (refine tr_skip ?_; try simp only [ex_seq, ex_block]) | (refine tr_label ?_; try simp only [ex_seq, ex_block]) | (refine tr_exit ?_; try simp only [ex_seq_exit, ex_block_exit, Nat.reduceEqDiff, if_true, if_false, ex_seq, ex_block, reduceCtorEq, ↓reduceIte]) | (refine tr_ret ?_; try simp only [ex_seq_ret, ex_block_ret]))
                      exact hK (k + 1) _ _ hkl ⟨⟨rfl, rfl, rfl, rfl, rfl, trivial⟩, Keep.refl _, low1 (Nat.lt_trans Nat.zero_lt_one hp.1.lt) hp.1.lt, hp.1.wf, by rw [a5]; exact hp.2.len, by rw [a5, hp.2.hw]; exact Nat.le_refl _⟩ (by omega)
                    · cases hf
                  · have d1 : decide ((k : Int) < (p.grants.length : Nat)) = false := decide_eq_false (by omega)
                    obtain rfl : k = p.grants.length := by omega
                    repeat (first | refine tr_seq_k fun _ _ => ?_ | (refine tr_region ?_; simp only [go_sem, List.getElem?_toArray, str_beq, reduceCtorEq, Nat.reduceEqDiff, Nat.reduceLT, Nat.reduceLeDiff, Nat.reduceAdd, Nat.reduceMul, Nat.reduceSub, Nat.reduceBEq, ↓reduceIte, bne_self_eq_false, Bool.and_false, Bool.false_and, Bool.true_or, Bool.false_or, d1]) | (refine tr_draw (id := 10) follows 6 [4, 5, 6] [0, 1, 2, 3, 4, 5, 6] (by kernel_rfl) ?_; simp only [go_sem, List.getElem?_toArray, str_beq, reduceCtorEq, Nat.reduceEqDiff, Nat.reduceLT, Nat.reduceLeDiff, Nat.reduceAdd, Nat.reduceMul, Nat.reduceSub, Nat.reduceBEq, ↓reduceIte, bne_self_eq_false, Bool.and_false, Bool.false_and, Bool.true_or, Bool.false_or, d1]) | refine k_of (by assumption) ?_ | refine tr_block ?_ | refine tr_scope ?_ | (refine tr_skip ?_; try simp only [ex_seq, ex_block]) | (refine tr_label ?_; try simp only [ex_seq, ex_block]) | (refine tr_exit ?_; try simp only [ex_seq_exit, ex_block_exit, Nat.reduceEqDiff, if_true, if_false, ex_seq, ex_block, reduceCtorEq, ↓reduceIte]) | (refine tr_ret ?_; try simp only [ex_seq_ret, ex_block_ret]))
                    refine tr_cond rfl (fun ht => ?_) (fun hf => ?_)
                    · cases ht
                    · repeat (first | refine tr_seq_k fun _ _ => ?_ | (refine tr_region ?_; simp only [go_sem, List.getElem?_toArray, str_beq, reduceCtorEq, Nat.reduceEqDiff, Nat.reduceLT, Nat.reduceLeDiff, Nat.reduceAdd, Nat.reduceMul, Nat.reduceSub, Nat.reduceBEq, ↓reduceIte, bne_self_eq_false, Bool.and_false, Bool.false_and, Bool.true_or, Bool.false_or]) | (refine tr_draw (id := 10) follows 6 [4, 5, 6] [0, 1, 2, 3, 4, 5, 6] (by kernel_rfl) ?_; simp only [go_sem, List.getElem?_toArray, str_beq, reduceCtorEq, Nat.reduceEqDiff, Nat.reduceLT, Nat.reduceLeDiff, Nat.reduceAdd, Nat.reduceMul, Nat.reduceSub, Nat.reduceBEq, ↓reduceIte, bne_self_eq_false, Bool.and_false, Bool.false_and, Bool.true_or, Bool.false_or]) | (refine call_givesW (cH) ?_; (try dsimp only); (try simp only [go_sem, List.getElem?_toArray, str_beq, reduceCtorEq, Nat.reduceEqDiff, Nat.reduceLT, Nat.reduceLeDiff, Nat.reduceAdd, Nat.reduceMul, Nat.reduceSub, Nat.reduceBEq, ↓reduceIte, bne_self_eq_false, Bool.and_false, Bool.false_and, Bool.true_or, Bool.false_or])) | refine k_of (by assumption) ?_ | refine tr_block ?_ | refine tr_scope ?_ | (refine tr_skip ?_; try simp only [ex_seq, ex_block]) | (refine tr_label ?_; try simp only [ex_seq, ex_block]) | (refine tr_exit ?_; try simp only [ex_seq_exit, ex_block_exit, Nat.reduceEqDiff, if_true, if_false, ex_seq, ex_block, reduceCtorEq, ↓reduceIte]) | (refine tr_ret ?_; try simp only [ex_seq_ret, ex_block_ret]))
                      refine (hQ _ _ [sA (pPolicy p)] ?_ (fun m => ?_)).2 <;> simp only [go_sem, List.getElem?_toArray, str_beq, reduceCtorEq, Nat.reduceEqDiff, Nat.reduceLT, Nat.reduceLeDiff, Nat.reduceAdd, Nat.reduceMul, Nat.reduceSub, Nat.reduceBEq, ↓reduceIte, bne_self_eq_false, Bool.and_false, Bool.false_and, Bool.true_or, Bool.false_or, Tryd.f10,]
end Go.Proofs.YtaeehadibckcjaaDoor
namespace Go.Proofs.YtaeehadibckcjaaDoor
open Go.RowKit Go.Vs Go.Vs.Ab
set_option maxRecDepth 100000
set_option maxHeartbeats 4000000
abbrev eAl : ByteArray := ⟨#[97, 108, 105, 99, 101]⟩
abbrev eBo : ByteArray := ⟨#[98, 111, 98]⟩
abbrev eCa : ByteArray := ⟨#[99, 97, 114, 111, 108]⟩
abbrev eP : ByteArray := ⟨#[112]⟩
abbrev eQ : ByteArray := ⟨#[113]⟩
abbrev eX : ByteArray := ⟨#[88]⟩
abbrev eZ : Tm := ⟨false, ⟨#[]⟩⟩
def at1 : Atm := ⟨eAl, eP, 1, ⟨true, eX⟩, eZ, eZ, eZ⟩
def at2 : Atm := ⟨eCa, eQ, 1, ⟨true, eX⟩, eZ, eZ, eZ⟩
theorem av_atm (a : Atm) : avOf (.agg a.cells) = some (atA a) := rfl
theorem pA_does (s p : ByteArray) (c : CV) (a : Atm) (hs : shuts [sA s, sA p, .c c] = some [sA s, sA p, .c c]) (h : answer (evFun Tryd.prog (lookH []) 100 18 [sA s, sA p, .c c] ⟨[], []⟩) = some (.agg a.cells)) : Does Tryd.prog 18 [sA s, sA p, .c c] (fun m => (atA a, m)) :=
  does_of_evA follows (callable_of Tryd.func18 (by kernel_rfl)) (av_atm a) hs h
theorem bld1A (a : Atm) : aBuildSlice Tryd.prog 43 1 [(0, .agg [.v (.string a.says), .v (.string a.pred), .v (.int .i64 a.n), .v (.bool a.a0.v), .v (.string a.a0.name), .v (.bool a.a1.v), .v (.string a.a1.name), .v (.bool a.a2.v), .v (.string a.a2.name), .v (.bool a.a3.v), .v (.string a.a3.name)])] = some ([a].flatMap atC) := by
  simp only [aBuildSlice, Tryd.underlying43, sz42, ze42]
  rfl
def gr1 : Grt := ⟨eBo, at1, true, [at2]⟩
abbrev tEx : ByteArray := ⟨#[97, 108, 105, 99, 101, 32, 115, 97, 121, 115, 32, 98, 111, 98, 32, 99, 97, 110, 115, 97, 121, 32, 112, 40, 88, 41, 32, 105, 102, 32, 99, 97, 114, 111, 108, 32, 115, 97, 121, 115, 32, 113, 40, 88, 41]⟩
theorem gr1_text : pGrant gr1 = tEx := by decide +kernel
theorem at1_sz : AtSz at1 := ⟨by decide, by decide, fun k => by match k with | 0 => decide | 1 => decide | 2 => decide | k + 3 => show at1.a3.name.size ≤ _; decide⟩
theorem at2_sz : AtSz at2 := ⟨by decide, by decide, fun k => by match k with | 0 => decide | 1 => decide | 2 => decide | k + 3 => show at2.a3.name.size ≤ _; decide⟩
theorem lives11_does : Does Tryd.prog 8 [] (fun m => (bA true, m)) := by
  have c1 := pA_does eAl eP (.sl true 1 [.v (.string eX)]) at1 rfl (by kernel_rfl)
  have c2 := pA_does eCa eQ (.sl true 1 [.v (.string eX)]) at2 rfl (by kernel_rfl)
  have cG := grant_does gr1 (by decide) at1_sz (fun a ha => by rw [show gr1.body = [at2] from rfl, List.mem_singleton] at ha; subst ha; exact at2_sz) (by decide)
  rw [gr1_text] at cG
  have b2 := bld1A at2
  refine does_of' Tryd.func8 rfl (by kernel_rfl) rfl Tryd.ntmps8 rfl rfl fun Q hQ => ?_
  repeat (first | refine tr_seq_k fun _ _ => ?_ | (refine tr_region ?_; simp only [go_sem, List.getElem?_toArray, str_beq, reduceCtorEq, Nat.reduceEqDiff, Nat.reduceLT, Nat.reduceLeDiff, Nat.reduceAdd, Nat.reduceMul, Nat.reduceSub, Nat.reduceBEq, ↓reduceIte, bne_self_eq_false, Bool.and_false, Bool.false_and, Bool.true_or, Bool.false_or, b2]) | (refine call_of (c1) ?_ ?_; (first | rfl | simp only [go_sem, List.getElem?_toArray, str_beq, reduceCtorEq, Nat.reduceEqDiff, Nat.reduceLT, Nat.reduceLeDiff, Nat.reduceAdd, Nat.reduceMul, Nat.reduceSub, Nat.reduceBEq, ↓reduceIte, bne_self_eq_false, Bool.and_false, Bool.false_and, Bool.true_or, Bool.false_or, b2, shut_col]); simp only [go_sem, List.getElem?_toArray, str_beq, reduceCtorEq, Nat.reduceEqDiff, Nat.reduceLT, Nat.reduceLeDiff, Nat.reduceAdd, Nat.reduceMul, Nat.reduceSub, Nat.reduceBEq, ↓reduceIte, bne_self_eq_false, Bool.and_false, Bool.false_and, Bool.true_or, Bool.false_or, b2]) | (refine call_of (c2) ?_ ?_; (first | rfl | simp only [go_sem, List.getElem?_toArray, str_beq, reduceCtorEq, Nat.reduceEqDiff, Nat.reduceLT, Nat.reduceLeDiff, Nat.reduceAdd, Nat.reduceMul, Nat.reduceSub, Nat.reduceBEq, ↓reduceIte, bne_self_eq_false, Bool.and_false, Bool.false_and, Bool.true_or, Bool.false_or, b2, shut_col]); simp only [go_sem, List.getElem?_toArray, str_beq, reduceCtorEq, Nat.reduceEqDiff, Nat.reduceLT, Nat.reduceLeDiff, Nat.reduceAdd, Nat.reduceMul, Nat.reduceSub, Nat.reduceBEq, ↓reduceIte, bne_self_eq_false, Bool.and_false, Bool.false_and, Bool.true_or, Bool.false_or, b2]) | (refine call_of (cG) ?_ ?_; (first | rfl | simp only [go_sem, List.getElem?_toArray, str_beq, reduceCtorEq, Nat.reduceEqDiff, Nat.reduceLT, Nat.reduceLeDiff, Nat.reduceAdd, Nat.reduceMul, Nat.reduceSub, Nat.reduceBEq, ↓reduceIte, bne_self_eq_false, Bool.and_false, Bool.false_and, Bool.true_or, Bool.false_or, b2, shut_col]); simp only [go_sem, List.getElem?_toArray, str_beq, reduceCtorEq, Nat.reduceEqDiff, Nat.reduceLT, Nat.reduceLeDiff, Nat.reduceAdd, Nat.reduceMul, Nat.reduceSub, Nat.reduceBEq, ↓reduceIte, bne_self_eq_false, Bool.and_false, Bool.false_and, Bool.true_or, Bool.false_or, b2]) | refine k_of (by assumption) ?_ | refine tr_block ?_ | refine tr_scope ?_ | (refine tr_skip ?_; try simp only [ex_seq, ex_block]) | (refine tr_label ?_; try simp only [ex_seq, ex_block]) | (refine tr_exit ?_; try simp only [ex_seq_exit, ex_block_exit, Nat.reduceEqDiff, if_true, if_false, ex_seq, ex_block, reduceCtorEq, ↓reduceIte]) | (refine tr_ret ?_; try simp only [ex_seq_ret, ex_block_ret]))
  refine (hQ _ _ [bA true] ?_ (fun m => ?_)).2 <;> simp only [go_sem, List.getElem?_toArray, str_beq, reduceCtorEq, Nat.reduceEqDiff, Nat.reduceLT, Nat.reduceLeDiff, Nat.reduceAdd, Nat.reduceMul, Nat.reduceSub, Nat.reduceBEq, ↓reduceIte, bne_self_eq_false, Bool.and_false, Bool.false_and, Bool.true_or, Bool.false_or, Tryd.f8,]
end Go.Proofs.YtaeehadibckcjaaDoor
namespace Go.Proofs.YtaeehadibckcjaaDoor
open Go.RowKit Go.Vs Go.Vs.Ab
set_option maxRecDepth 100000
set_option maxHeartbeats 4000000
structure PolNum (p : Pol) : Prop where
  prin : ∀ s ∈ p.prin, s.size ≤ reachBytes
  preds : ∀ x ∈ p.preds, -9223372036854775808 ≤ x.ar ∧ x.ar ≤ 9223372036854775807
  clears : ∀ c ∈ p.clears, ∀ s ∈ c.reads, s.size ≤ reachBytes
  quota : -9223372036854775808 ≤ p.quota ∧ p.quota ≤ 9223372036854775807
  budget : -9223372036854775808 ≤ p.budget ∧ p.budget ≤ 9223372036854775807
def sumSz : List ByteArray → Nat
  | [] => 0
  | s :: r => s.size + sumSz r
theorem sumSz_mem {l : List ByteArray} {s : ByteArray} (h : s ∈ l) : s.size ≤ sumSz l := by
  induction l with
  | nil => simp at h
  | cons x r ih =>
    rcases List.mem_cons.1 h with rfl | h
    · simp only [sumSz]; omega
    · have := ih h; simp only [sumSz]; omega
theorem ltx_sum {bytes : Int} (hb : bytes ≤ 1000000) : ∀ {l : List ByteArray} {n : Int}, (∀ s ∈ l, s.size ≤ reachBytes) → 0 ≤ n → n ≤ bytes → ltx bytes n l = true → n + (sumSz l : Nat) ≤ bytes
  | [], n, _, h0, h1, _ => by simp only [sumSz]; omega
  | s :: r, n, hs, h0, h1, h => by
    have hm := hs s (by simp)
    unfold reachBytes at hm
    have hw : IntKind.i64.wrap (n + (s.size : Int)) = n + s.size := wrap_in (by omega)
    unfold ltx at h
    rw [hw] at h
    split at h
    · cases h
    · have := ltx_sum hb (fun x hx => hs x (by simp [hx])) (by omega) (by omega) h
      simp only [sumSz]
      omega
theorem lightTx_sum {l : List ByteArray} {most bytes : Int} (hb : bytes ≤ 1000000) (h0 : 0 ≤ bytes) (hs : ∀ s ∈ l, s.size ≤ reachBytes) (h : lightTx l most bytes = true) : (sumSz l : Int) ≤ bytes := by
  unfold lightTx at h
  simp only [Bool.and_eq_true] at h
  have := ltx_sum hb hs (Int.le_refl 0) h0 h.2
  omega
theorem joinB_le (sep : ByteArray) : ∀ l : List ByteArray, (joinB l sep).size ≤ sumSz l + l.length * sep.size := fun l => by
  have key : ∀ r : List ByteArray, ∀ (x : ByteArray), (Lib.join ((x :: r).map (·.data.toList)) sep.data.toList).length ≤ sumSz (x :: r) + (x :: r).length * sep.size := fun r => by
    induction r with
    | nil =>
      intro x
      have : (Lib.join ([x].map (·.data.toList)) sep.data.toList).length = x.size := by simp [Lib.join]
      rw [this]
      simp only [sumSz]
      omega
    | cons y r ih =>
      intro x
      have h1 := ih y
      have : (Lib.join ((x :: y :: r).map (·.data.toList)) sep.data.toList).length = x.size + (sep.size + (Lib.join ((y :: r).map (·.data.toList)) sep.data.toList).length) := by
        simp [Lib.join]
      rw [this]
      simp only [sumSz, List.length_cons, Nat.add_mul] at h1 ⊢
      omega
  cases l with
  | nil =>
    have : (joinB [] sep).size = 0 := by simp [joinB, Lib.join]; rfl
    omega
  | cons x r => exact key r x
theorem light_parts {a : Atm} (h : lightA a = true) : a.says.size ≤ 300 ∧ a.pred.size ≤ 300 ∧ ∀ k, k < 4 → (a.arg k).name.size ≤ 300 := by
  unfold lightA lightK at h
  simp only [Bool.and_eq_true, decide_eq_true_eq, List.all_eq_true] at h
  refine ⟨h.1.1, h.1.2, fun k hk => ?_⟩
  have := h.2 (a.arg k) (by
    obtain rfl | rfl | rfl | rfl : k = 0 ∨ k = 1 ∨ k = 2 ∨ k = 3 := by omega
    all_goals simp [Atm.args, Atm.arg])
  simpa [tmL] using this
theorem lightA_sz {a : Atm} (h : lightA a = true) : AtSz a := by
  obtain ⟨h1, h2, h3⟩ := light_parts h
  refine ⟨by omega, by omega, fun k => ?_⟩
  by_cases hk : k < 4
  · have := h3 k hk; omega
  · obtain ⟨j, rfl⟩ : ∃ j, k = j + 4 := ⟨k - 4, by omega⟩
    have := h3 3 (by omega)
    show (a.arg 3).name.size ≤ 1000000
    omega
theorem lightAs_all {l : List Atm} {most : Int} (h : lightAs l most = true) : (∀ a ∈ l, AtSz a) ∧ (l.length : Int) ≤ most := by
  refine ⟨fun a ha => ?_, lightAs_len h⟩
  unfold lightAs at h
  simp only [Bool.and_eq_true, List.all_eq_true] at h
  exact lightA_sz (h.2 a ha)
theorem light_ok {p : Pol} (h : lightP p = true) (hn : PolNum p) : PolOk p ∧ ∀ c ∈ p.clears, ∀ s ∈ c.reads, s.size ≤ 1000000 := by
  simp only [lightP, Bool.and_eq_true, Bool.not_eq_true', decide_eq_false_iff_not, List.all_eq_true] at h
  obtain ⟨⟨⟨⟨⟨⟨⟨⟨h1, h2⟩, h3⟩, h4⟩, h5⟩, h6⟩, h7⟩, h8⟩, h9⟩ := h
  have hl1 := lightTx_len h1
  have hs1 := lightTx_sum (by decide) (by decide) hn.prin h1
  have hc : ∀ c ∈ p.clears, c.who.size ≤ 300 ∧ c.reads.length ≤ 40 ∧ sumSz c.reads ≤ 3000 := fun c hc => by
    have := h7 c hc
    simp only [gCl, Bool.and_eq_true, Bool.not_eq_true', decide_eq_false_iff_not] at this
    have a1 := lightTx_len this.2
    have a2 := lightTx_sum (by decide) (by decide) (hn.clears c hc) this.2
    omega
  refine ⟨⟨⟨by omega, fun s hs => ?_⟩, ⟨by omega, fun x hx => ?_⟩, ⟨by omega, fun c hcc => ?_⟩, hn.quota, hn.budget, ⟨by omega, fun r hr => ?_⟩, ⟨by omega, fun g hg => ?_⟩⟩, fun c hcc s hs => ?_⟩
  · have := sumSz_mem hs; omega
  · have := h6 x hx
    simp only [gPr, Bool.not_eq_true', decide_eq_false_iff_not] at this
    exact ⟨by omega, hn.preds x hx⟩
  · obtain ⟨q1, q2, q3⟩ := hc c hcc
    have := joinB_le tComma c.reads
    have z : tComma.size = 2 := rfl
    rw [z] at this
    exact ⟨by omega, by omega, by omega⟩
  · have := h8 r hr
    simp only [gRu, Bool.and_eq_true] at this
    obtain ⟨q1, q2⟩ := lightAs_all this.2
    exact ⟨lightA_sz this.1, q1, by omega⟩
  · have := h9 g hg
    simp only [gGr, Bool.and_eq_true, Bool.not_eq_true', decide_eq_false_iff_not] at this
    obtain ⟨q1, q2⟩ := lightAs_all this.2.2
    exact ⟨by omega, lightA_sz this.2.1, q1, by omega⟩
  · obtain ⟨q1, q2, q3⟩ := hc c hcc
    have := sumSz_mem hs
    omega
end Go.Proofs.YtaeehadibckcjaaDoor
namespace Go.Proofs.YtaeehadibckcjaaDoor
open Go.RowKit Go.Vs Go.Vs.Ab
set_option maxRecDepth 100000
set_option maxHeartbeats 4000000
def okA (a : Atm) : Bool := decide (pcheck3 a = 0)
theorem atoms_does (l : List Atm) (ex : Bool) (hl : l.length ≤ 1000) : Does Tryd.prog 46 [.c (slC atC ex l)] (fun m => (bA (l.all okA), m)) := by
  refine does_of' Tryd.func46 rfl (by kernel_rfl) rfl Tryd.ntmps46 rfl rfl fun Q hQ => ?_
  repeat (first | refine tr_seq_k fun _ _ => ?_ | (refine tr_region ?_; simp only [go_sem, List.getElem?_toArray, str_beq, reduceCtorEq, Nat.reduceEqDiff, Nat.reduceLT, Nat.reduceLeDiff, Nat.reduceAdd, Nat.reduceMul, Nat.reduceSub, Nat.reduceBEq, ↓reduceIte, bne_self_eq_false, Bool.and_false, Bool.false_and, Bool.true_or, Bool.false_or]) | refine k_of (by assumption) ?_ | refine tr_block ?_ | refine tr_scope ?_ | (refine tr_skip ?_; try simp only [ex_seq, ex_block]) | (refine tr_label ?_; try simp only [ex_seq, ex_block]) | (refine tr_exit ?_; try simp only [ex_seq_exit, ex_block_exit, Nat.reduceEqDiff, if_true, if_false, ex_seq, ex_block, reduceCtorEq, ↓reduceIte]) | (refine tr_ret ?_; try simp only [ex_seq_ret, ex_block_ret]))
  refine tr_loop_k (σ := Nat) (fun k => [(0, .c (slC atC ex l)), (3, iA k)]) (fun _ => ⟨[], []⟩) (fun k => k ≤ l.length ∧ ∀ (j : Nat) (hj : j < l.length), j < k → okA l[j] = true) (fun k => l.length - k) 0 ⟨Nat.zero_le _, fun _ _ h => absurd h (Nat.not_lt_zero _)⟩ ⟨rfl, rfl, trivial⟩ rfl ?_
  rintro k ⟨hkk, hok⟩ K hK
  by_cases hkl : k < l.length
  · have d1 : decide ((k : Int) < (l.length : Nat)) = true := decide_eq_true (by omega)
    have ix := idxA' (ex := ex) hkl
    have ws := wrap_succ (show k ≤ 1000000000 by omega)
    have hbad := fun h => all_bad (g := okA) hkl h
    have hnext := fun h => next_ok (g := okA) hok hkl h
    generalize l[k] = x at *
    have cK := check3_does x
    cases h1 : decide (pcheck3 x = 0) with
    | false =>
      rw [hbad h1] at hQ
      repeat (first | refine tr_seq_k fun _ _ => ?_ | (refine tr_region ?_; simp only [go_sem, List.getElem?_toArray, str_beq, reduceCtorEq, Nat.reduceEqDiff, Nat.reduceLT, Nat.reduceLeDiff, Nat.reduceAdd, Nat.reduceMul, Nat.reduceSub, Nat.reduceBEq, ↓reduceIte, bne_self_eq_false, Bool.and_false, Bool.false_and, Bool.true_or, Bool.false_or, d1]) | refine k_of (by assumption) ?_ | refine tr_block ?_ | refine tr_scope ?_ | (refine tr_skip ?_; try simp only [ex_seq, ex_block]) | (refine tr_label ?_; try simp only [ex_seq, ex_block]) | (refine tr_exit ?_; try simp only [ex_seq_exit, ex_block_exit, Nat.reduceEqDiff, if_true, if_false, ex_seq, ex_block, reduceCtorEq, ↓reduceIte]) | (refine tr_ret ?_; try simp only [ex_seq_ret, ex_block_ret]))
      refine tr_cond rfl (fun ht => ?_) (fun hf => ?_)
      · repeat (first | refine tr_seq_k fun _ _ => ?_ | (refine tr_region ?_; simp only [go_sem, List.getElem?_toArray, str_beq, reduceCtorEq, Nat.reduceEqDiff, Nat.reduceLT, Nat.reduceLeDiff, Nat.reduceAdd, Nat.reduceMul, Nat.reduceSub, Nat.reduceBEq, ↓reduceIte, bne_self_eq_false, Bool.and_false, Bool.false_and, Bool.true_or, Bool.false_or, ix, h1]) | (refine call_of (cK) ?_ ?_; (first | rfl | simp only [go_sem, List.getElem?_toArray, str_beq, reduceCtorEq, Nat.reduceEqDiff, Nat.reduceLT, Nat.reduceLeDiff, Nat.reduceAdd, Nat.reduceMul, Nat.reduceSub, Nat.reduceBEq, ↓reduceIte, bne_self_eq_false, Bool.and_false, Bool.false_and, Bool.true_or, Bool.false_or, ix, h1, shut_col]); simp only [go_sem, List.getElem?_toArray, str_beq, reduceCtorEq, Nat.reduceEqDiff, Nat.reduceLT, Nat.reduceLeDiff, Nat.reduceAdd, Nat.reduceMul, Nat.reduceSub, Nat.reduceBEq, ↓reduceIte, bne_self_eq_false, Bool.and_false, Bool.false_and, Bool.true_or, Bool.false_or, ix, h1]) | refine k_of (by assumption) ?_ | refine tr_block ?_ | refine tr_scope ?_ | (refine tr_skip ?_; try simp only [ex_seq, ex_block]) | (refine tr_label ?_; try simp only [ex_seq, ex_block]) | (refine tr_exit ?_; try simp only [ex_seq_exit, ex_block_exit, Nat.reduceEqDiff, if_true, if_false, ex_seq, ex_block, reduceCtorEq, ↓reduceIte]) | (refine tr_ret ?_; try simp only [ex_seq_ret, ex_block_ret]))
        refine tr_cond rfl (fun ht => ?_) (fun hf => ?_)
        · repeat (first | refine tr_seq_k fun _ _ => ?_ | (refine tr_region ?_; simp only [go_sem, List.getElem?_toArray, str_beq, reduceCtorEq, Nat.reduceEqDiff, Nat.reduceLT, Nat.reduceLeDiff, Nat.reduceAdd, Nat.reduceMul, Nat.reduceSub, Nat.reduceBEq, ↓reduceIte, bne_self_eq_false, Bool.and_false, Bool.false_and, Bool.true_or, Bool.false_or]) | refine k_of (by assumption) ?_ | refine tr_block ?_ | refine tr_scope ?_ | (refine tr_skip ?_; try simp only [ex_seq, ex_block]) | (refine tr_label ?_; try simp only [ex_seq, ex_block]) | (refine tr_exit ?_; try simp only [ex_seq_exit, ex_block_exit, Nat.reduceEqDiff, if_true, if_false, ex_seq, ex_block, reduceCtorEq, ↓reduceIte]) | (refine tr_ret ?_; try simp only [ex_seq_ret, ex_block_ret]))
          refine (hQ _ _ [bA false] ?_ (fun m => ?_)).2 <;> simp only [go_sem, List.getElem?_toArray, str_beq, reduceCtorEq, Nat.reduceEqDiff, Nat.reduceLT, Nat.reduceLeDiff, Nat.reduceAdd, Nat.reduceMul, Nat.reduceSub, Nat.reduceBEq, ↓reduceIte, bne_self_eq_false, Bool.and_false, Bool.false_and, Bool.true_or, Bool.false_or, Tryd.f46,]
        · cases hf
      · cases hf
    | true =>
      repeat (first | refine tr_seq_k fun _ _ => ?_ | (refine tr_region ?_; simp only [go_sem, List.getElem?_toArray, str_beq, reduceCtorEq, Nat.reduceEqDiff, Nat.reduceLT, Nat.reduceLeDiff, Nat.reduceAdd, Nat.reduceMul, Nat.reduceSub, Nat.reduceBEq, ↓reduceIte, bne_self_eq_false, Bool.and_false, Bool.false_and, Bool.true_or, Bool.false_or, d1]) | refine k_of (by assumption) ?_ | refine tr_block ?_ | refine tr_scope ?_ | (refine tr_skip ?_; try simp only [ex_seq, ex_block]) | (refine tr_label ?_; try simp only [ex_seq, ex_block]) | (refine tr_exit ?_; try simp only [ex_seq_exit, ex_block_exit, Nat.reduceEqDiff, if_true, if_false, ex_seq, ex_block, reduceCtorEq, ↓reduceIte]) | (refine tr_ret ?_; try simp only [ex_seq_ret, ex_block_ret]))
      refine tr_cond rfl (fun ht => ?_) (fun hf => ?_)
      · repeat (first | refine tr_seq_k fun _ _ => ?_ | (refine tr_region ?_; simp only [go_sem, List.getElem?_toArray, str_beq, reduceCtorEq, Nat.reduceEqDiff, Nat.reduceLT, Nat.reduceLeDiff, Nat.reduceAdd, Nat.reduceMul, Nat.reduceSub, Nat.reduceBEq, ↓reduceIte, bne_self_eq_false, Bool.and_false, Bool.false_and, Bool.true_or, Bool.false_or, ix, h1]) | (refine call_of (cK) ?_ ?_; (first | rfl | simp only [go_sem, List.getElem?_toArray, str_beq, reduceCtorEq, Nat.reduceEqDiff, Nat.reduceLT, Nat.reduceLeDiff, Nat.reduceAdd, Nat.reduceMul, Nat.reduceSub, Nat.reduceBEq, ↓reduceIte, bne_self_eq_false, Bool.and_false, Bool.false_and, Bool.true_or, Bool.false_or, ix, h1, shut_col]); simp only [go_sem, List.getElem?_toArray, str_beq, reduceCtorEq, Nat.reduceEqDiff, Nat.reduceLT, Nat.reduceLeDiff, Nat.reduceAdd, Nat.reduceMul, Nat.reduceSub, Nat.reduceBEq, ↓reduceIte, bne_self_eq_false, Bool.and_false, Bool.false_and, Bool.true_or, Bool.false_or, ix, h1]) | refine k_of (by assumption) ?_ | refine tr_block ?_ | refine tr_scope ?_ | (refine tr_skip ?_; try simp only [ex_seq, ex_block]) | (refine tr_label ?_; try simp only [ex_seq, ex_block]) | (refine tr_exit ?_; try simp only [ex_seq_exit, ex_block_exit, Nat.reduceEqDiff, if_true, if_false, ex_seq, ex_block, reduceCtorEq, ↓reduceIte]) | (refine tr_ret ?_; try simp only [ex_seq_ret, ex_block_ret]))
        refine tr_cond rfl (fun ht => ?_) (fun hf => ?_)
        · cases ht
        · repeat (first | refine tr_seq_k fun _ _ => ?_ | (refine tr_region ?_; simp only [go_sem, List.getElem?_toArray, str_beq, reduceCtorEq, Nat.reduceEqDiff, Nat.reduceLT, Nat.reduceLeDiff, Nat.reduceAdd, Nat.reduceMul, Nat.reduceSub, Nat.reduceBEq, ↓reduceIte, bne_self_eq_false, Bool.and_false, Bool.false_and, Bool.true_or, Bool.false_or, ws]) | refine k_of (by assumption) ?_ | refine tr_block ?_ | refine tr_scope ?_ | (refine tr_skip ?_; try simp only [ex_seq, ex_block]) | (refine tr_label ?_; try simp only [ex_seq, ex_block]) | (refine tr_exit ?_; try simp only [ex_seq_exit, ex_block_exit, Nat.reduceEqDiff, if_true, if_false, ex_seq, ex_block, reduceCtorEq, ↓reduceIte]) | (refine tr_ret ?_; try simp only [ex_seq_ret, ex_block_ret]))
          exact hK (k + 1) _ _ ⟨hkl, hnext h1⟩ ⟨⟨rfl, rfl, trivial⟩, Keep.refl _, rfl, rfl, Nat.le_refl _, Nat.le_refl _⟩ (by omega)
      · cases hf
  · have d1 : decide ((k : Int) < (l.length : Nat)) = false := decide_eq_false (by omega)
    obtain rfl : k = l.length := by omega
    rw [all_ok (fun j hj => hok j hj hj)] at hQ
    repeat (first | refine tr_seq_k fun _ _ => ?_ | (refine tr_region ?_; simp only [go_sem, List.getElem?_toArray, str_beq, reduceCtorEq, Nat.reduceEqDiff, Nat.reduceLT, Nat.reduceLeDiff, Nat.reduceAdd, Nat.reduceMul, Nat.reduceSub, Nat.reduceBEq, ↓reduceIte, bne_self_eq_false, Bool.and_false, Bool.false_and, Bool.true_or, Bool.false_or, d1]) | refine k_of (by assumption) ?_ | refine tr_block ?_ | refine tr_scope ?_ | (refine tr_skip ?_; try simp only [ex_seq, ex_block]) | (refine tr_label ?_; try simp only [ex_seq, ex_block]) | (refine tr_exit ?_; try simp only [ex_seq_exit, ex_block_exit, Nat.reduceEqDiff, if_true, if_false, ex_seq, ex_block, reduceCtorEq, ↓reduceIte]) | (refine tr_ret ?_; try simp only [ex_seq_ret, ex_block_ret]))
    refine tr_cond rfl (fun ht => ?_) (fun hf => ?_)
    · cases ht
    · repeat (first | refine tr_seq_k fun _ _ => ?_ | (refine tr_region ?_; simp only [go_sem, List.getElem?_toArray, str_beq, reduceCtorEq, Nat.reduceEqDiff, Nat.reduceLT, Nat.reduceLeDiff, Nat.reduceAdd, Nat.reduceMul, Nat.reduceSub, Nat.reduceBEq, ↓reduceIte, bne_self_eq_false, Bool.and_false, Bool.false_and, Bool.true_or, Bool.false_or]) | refine k_of (by assumption) ?_ | refine tr_block ?_ | refine tr_scope ?_ | (refine tr_skip ?_; try simp only [ex_seq, ex_block]) | (refine tr_label ?_; try simp only [ex_seq, ex_block]) | (refine tr_exit ?_; try simp only [ex_seq_exit, ex_block_exit, Nat.reduceEqDiff, if_true, if_false, ex_seq, ex_block, reduceCtorEq, ↓reduceIte]) | (refine tr_ret ?_; try simp only [ex_seq_ret, ex_block_ret]))
      refine (hQ _ _ [bA true] ?_ (fun m => ?_)).2 <;> simp only [go_sem, List.getElem?_toArray, str_beq, reduceCtorEq, Nat.reduceEqDiff, Nat.reduceLT, Nat.reduceLeDiff, Nat.reduceAdd, Nat.reduceMul, Nat.reduceSub, Nat.reduceBEq, ↓reduceIte, bne_self_eq_false, Bool.and_false, Bool.false_and, Bool.true_or, Bool.false_or, Tryd.f46,]
end Go.Proofs.YtaeehadibckcjaaDoor
