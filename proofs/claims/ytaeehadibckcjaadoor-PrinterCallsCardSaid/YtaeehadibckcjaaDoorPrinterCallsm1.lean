/-
  Part 1 of the proof's own texts: general lemmas and contracts of functions, laid one behind the other.
-/
import Derived.Test.YtaeehadibckcjaaDoorPrinterCallsm0
import Derived.Test.YtaeehadibckcjaaDoorAs
import Derived.Test.YtaeehadibckcjaaDoorBc
import Derived.KernelRfl
import Derived.Shelf.Strings.Builder1
import Derived.Shelf.Strings.Builder2
import Derived.Shelf.Strings.OnBuilder
import Derived.Shelf.Strconv.Itoa0
import Derived.Shelf.Strconv.Itoa1
import Derived.Shelf.LaysM
import Derived.Shelf.Strconv.Itoa2
import Derived.Shelf.Strconv.Itoa3
import Derived.Test.YtaeehadibckcjaaDoorProg
import Derived.Test.YtaeehadibckcjaaDoorAm
import Derived.Test.YtaeehadibckcjaaDoorAp
import Derived.Test.YtaeehadibckcjaaDoorBd
import Derived.Lib.AppendStr
import Derived.Lib.Builder
import Derived.Lib.UnsafeStr
import Derived.WalkKit
import Derived.Laws.Externs
import Derived.Lib.Hide
/-
  Chapter 5: contracts on abstract values: Match, All, Under; the reference's Apply; lists of atoms.
-/
set_option linter.unusedSimpArgs false
set_option linter.unusedVariables false
namespace Go.Proofs.YtaeehadibckcjaaDoor
open Go.Vs Go.Vs.Ab
set_option maxRecDepth 100000
def Atm.setArg (a : Atm) (k : Nat) (t : Tm) : Atm := match k with
  | 0 => { a with a0 := t }
  | 1 => { a with a1 := t }
  | 2 => { a with a2 := t }
  | _ => { a with a3 := t }
theorem atSet (b : Atm) {k : Nat} (h : k < 4) (t : Tm) : List.take (3 + k * 2) ([.c (.v (.string b.says)), .c (.v (.string b.pred)), .c (.v (.int .i64 b.n)), .c (.v (.bool b.a0.v)), .c (.v (.string b.a0.name)), .c (.v (.bool b.a1.v)), .c (.v (.string b.a1.name)), .c (.v (.bool b.a2.v)), .c (.v (.string b.a2.name)), .c (.v (.bool b.a3.v)), .c (.v (.string b.a3.name))] : List AV) ++ ([.c (.v (.bool t.v)), .c (.v (.string t.name))] : List AV) ++ List.drop (3 + k * 2) ([.c (.v (.int .i64 b.n)), .c (.v (.bool b.a0.v)), .c (.v (.string b.a0.name)), .c (.v (.bool b.a1.v)), .c (.v (.string b.a1.name)), .c (.v (.bool b.a2.v)), .c (.v (.string b.a2.name)), .c (.v (.bool b.a3.v)), .c (.v (.string b.a3.name))] : List AV) = ([.c (.v (.string (Atm.setArg b k t).says)), .c (.v (.string (Atm.setArg b k t).pred)), .c (.v (.int .i64 (Atm.setArg b k t).n)), .c (.v (.bool (Atm.setArg b k t).a0.v)), .c (.v (.string (Atm.setArg b k t).a0.name)), .c (.v (.bool (Atm.setArg b k t).a1.v)), .c (.v (.string (Atm.setArg b k t).a1.name)), .c (.v (.bool (Atm.setArg b k t).a2.v)), .c (.v (.string (Atm.setArg b k t).a2.name)), .c (.v (.bool (Atm.setArg b k t).a3.v)), .c (.v (.string (Atm.setArg b k t).a3.name))] : List AV) := by
  obtain rfl | rfl | rfl | rfl : k = 0 ∨ k = 1 ∨ k = 2 ∨ k = 3 := by omega
  all_goals rfl
theorem setArg_upto (f : Tm → Tm) (a : Atm) {k : Nat} (h : k < 4) : Atm.setArg (a.upto f k) k (f (a.arg k)) = a.upto f (k + 1) := by
  obtain rfl | rfl | rfl | rfl : k = 0 ∨ k = 1 ∨ k = 2 ∨ k = 3 := by omega
  all_goals rfl
theorem upto_here (f : Tm → Tm) (a : Atm) {k : Nat} (h : k < 4) : (a.upto f k).arg k = a.arg k := by
  rw [upto_arg _ _ _ h, if_neg (Nat.lt_irrefl _)]
theorem upto_count (f : Tm → Tm) (a : Atm) (k : Nat) : (a.upto f k).count = a.count := rfl
def zAt : Atm := ⟨⟨#[]⟩, ⟨#[]⟩, 0, ⟨false, ⟨#[]⟩⟩, ⟨false, ⟨#[]⟩⟩, ⟨false, ⟨#[]⟩⟩, ⟨false, ⟨#[]⟩⟩⟩
set_option maxRecDepth 10000
set_option maxHeartbeats 1000000
/-! ### lists of atoms -/
theorem info_a : info3 Tryd.prog 42 = some (11, 136) := by simp only [info3, sz42, by42, ze42]; rfl
theorem build0A : aBuildSlice Tryd.prog 43 0 [] = some [] := by kernel_rfl
theorem idxA {ex : Bool} {l : List Atm} {k : Nat} (h : k < l.length) : aIndexAddr Tryd.prog 43 (slT ex l) (.c (.v (.int .i64 (k : Int)))) = some (.cptr (atC l[k] ++ (l.drop (k + 1)).flatMap atC)) :=
  idx_R atC 11 (fun _ => rfl) Tryd.underlying43 sz42 (by decide) h
def lightAs (l : List Atm) (most : Int) : Bool := !decide (most < (l.length : Int)) && l.all lightA
theorem lightAs_len {l : List Atm} {most : Int} (h : lightAs l most = true) : (l.length : Int) ≤ most := by
  unfold lightAs at h
  simp only [Bool.and_eq_true, Bool.not_eq_true', decide_eq_false_iff_not] at h
  omega
theorem lightAtoms_does (l : List Atm) (most : Int) (ex : Bool) (hmost : most ≤ 1000000) : Does Tryd.prog 43 [slT ex l, iA most] (fun m => (bA (lightAs l most), m)) := by
  cases h1 : decide (most < (l.length : Int)) with
  | true =>
    have hr : lightAs l most = false := by unfold lightAs; rw [h1]; rfl
    refine does_of' Tryd.func43 rfl (by kernel_rfl) rfl Tryd.ntmps43 rfl rfl fun Q hQ => ?_
    repeat (first
        | refine tr_seq_k fun _ _ => ?_
        | (refine tr_region ?_; simp only [go_sem, List.getElem?_toArray, str_beq, reduceCtorEq, Nat.reduceEqDiff, Nat.reduceLT, Nat.reduceLeDiff, Nat.reduceAdd, Nat.reduceMul, Nat.reduceSub, Nat.reduceBEq, ↓reduceIte, bne_self_eq_false, Bool.and_false, Bool.false_and, Bool.true_or, Bool.false_or, h1])
        | refine k_of (by assumption) ?_
        | refine tr_block ?_
        | refine tr_scope ?_
        | (refine tr_skip ?_; try simp only [ex_seq, ex_block])
        | (refine tr_label ?_; try simp only [ex_seq, ex_block])
        | (refine tr_exit ?_; try simp only [ex_seq_exit, ex_block_exit, Nat.reduceEqDiff, if_true, if_false, ex_seq, ex_block, reduceCtorEq, ↓reduceIte])
        | (refine tr_ret ?_; try simp only [ex_seq_ret, ex_block_ret]))
    refine tr_cond rfl (fun ht => ?_) (fun hf => ?_)
    · repeat (first
          | refine tr_seq_k fun _ _ => ?_
          | (refine tr_region ?_; simp only [go_sem, List.getElem?_toArray, str_beq, reduceCtorEq, Nat.reduceEqDiff, Nat.reduceLT, Nat.reduceLeDiff, Nat.reduceAdd, Nat.reduceMul, Nat.reduceSub, Nat.reduceBEq, ↓reduceIte, bne_self_eq_false, Bool.and_false, Bool.false_and, Bool.true_or, Bool.false_or])
          | refine k_of (by assumption) ?_
          | refine tr_block ?_
          | refine tr_scope ?_
          | (refine tr_skip ?_; try simp only [ex_seq, ex_block])
          | (refine tr_label ?_; try simp only [ex_seq, ex_block])
          | (refine tr_exit ?_; try simp only [ex_seq_exit, ex_block_exit, Nat.reduceEqDiff, if_true, if_false, ex_seq, ex_block, reduceCtorEq, ↓reduceIte])
          | (refine tr_ret ?_; try simp only [ex_seq_ret, ex_block_ret]))
      refine (hQ _ _ [bA false] ?_ (fun m => ?_)).2 <;> simp only [go_sem, List.getElem?_toArray, str_beq, reduceCtorEq, Nat.reduceEqDiff, Nat.reduceLT, Nat.reduceLeDiff, Nat.reduceAdd, Nat.reduceMul, Nat.reduceSub, Nat.reduceBEq, ↓reduceIte, bne_self_eq_false, Bool.and_false, Bool.false_and, Bool.true_or, Bool.false_or, Tryd.f43, hr]
    · cases hf
  | false =>
    have hz : lightAs l most = l.all lightA := by unfold lightAs; rw [h1]; rfl
    have hlm : (l.length : Int) ≤ most := by
      have := of_decide_eq_false h1
      omega
    refine does_of' Tryd.func43 rfl (by kernel_rfl) rfl Tryd.ntmps43 rfl rfl fun Q hQ => ?_
    repeat (first
        | refine tr_seq_k fun _ _ => ?_
        | (refine tr_region ?_; simp only [go_sem, List.getElem?_toArray, str_beq, reduceCtorEq, Nat.reduceEqDiff, Nat.reduceLT, Nat.reduceLeDiff, Nat.reduceAdd, Nat.reduceMul, Nat.reduceSub, Nat.reduceBEq, ↓reduceIte, bne_self_eq_false, Bool.and_false, Bool.false_and, Bool.true_or, Bool.false_or, h1])
        | refine k_of (by assumption) ?_
        | refine tr_block ?_
        | refine tr_scope ?_
        | (refine tr_skip ?_; try simp only [ex_seq, ex_block])
        | (refine tr_label ?_; try simp only [ex_seq, ex_block])
        | (refine tr_exit ?_; try simp only [ex_seq_exit, ex_block_exit, Nat.reduceEqDiff, if_true, if_false, ex_seq, ex_block, reduceCtorEq, ↓reduceIte])
        | (refine tr_ret ?_; try simp only [ex_seq_ret, ex_block_ret]))
    refine tr_cond rfl (fun ht => ?_) (fun hf => ?_)
    · cases ht
    · repeat (first
          | refine tr_seq_k fun _ _ => ?_
          | (refine tr_region ?_; simp only [go_sem, List.getElem?_toArray, str_beq, reduceCtorEq, Nat.reduceEqDiff, Nat.reduceLT, Nat.reduceLeDiff, Nat.reduceAdd, Nat.reduceMul, Nat.reduceSub, Nat.reduceBEq, ↓reduceIte, bne_self_eq_false, Bool.and_false, Bool.false_and, Bool.true_or, Bool.false_or])
          | refine k_of (by assumption) ?_
          | refine tr_block ?_
          | refine tr_scope ?_
          | (refine tr_skip ?_; try simp only [ex_seq, ex_block])
          | (refine tr_label ?_; try simp only [ex_seq, ex_block])
          | (refine tr_exit ?_; try simp only [ex_seq_exit, ex_block_exit, Nat.reduceEqDiff, if_true, if_false, ex_seq, ex_block, reduceCtorEq, ↓reduceIte])
          | (refine tr_ret ?_; try simp only [ex_seq_ret, ex_block_ret]))
      refine tr_loop_k (σ := Nat) (fun k => [(0, slT ex l), (5, iA k)]) (fun _ => ⟨[], []⟩)
        (fun k => k ≤ l.length ∧ (l.take k).all lightA = true) (fun k => l.length - k) 0 ⟨Nat.zero_le _, rfl⟩ ⟨rfl, rfl, trivial⟩ rfl ?_
      rintro k ⟨hk, hp⟩ K hK
      repeat (first
          | refine tr_seq_k fun _ _ => ?_
          | (refine tr_region ?_; simp only [go_sem, List.getElem?_toArray, str_beq, reduceCtorEq, Nat.reduceEqDiff, Nat.reduceLT, Nat.reduceLeDiff, Nat.reduceAdd, Nat.reduceMul, Nat.reduceSub, Nat.reduceBEq, ↓reduceIte, bne_self_eq_false, Bool.and_false, Bool.false_and, Bool.true_or, Bool.false_or])
          | refine k_of (by assumption) ?_
          | refine tr_block ?_
          | refine tr_scope ?_
          | (refine tr_skip ?_; try simp only [ex_seq, ex_block])
          | (refine tr_label ?_; try simp only [ex_seq, ex_block])
          | (refine tr_exit ?_; try simp only [ex_seq_exit, ex_block_exit, Nat.reduceEqDiff, if_true, if_false, ex_seq, ex_block, reduceCtorEq, ↓reduceIte])
          | (refine tr_ret ?_; try simp only [ex_seq_ret, ex_block_ret]))
      refine tr_cond rfl (fun ht => ?_) (fun hf => ?_)
      · have hlt : k < l.length := by simpa using ht
        have ws := wrap_succ (show k ≤ 1000000000 by omega)
        have cA := lightA_does l[k]
        cases hv : lightA l[k] with
        | false =>
          have hr : lightAs l most = false := hz.trans (all_fail hlt hv)
          rw [hv] at cA
          repeat (first
              | refine tr_seq_k fun _ _ => ?_
              | (refine tr_region ?_; simp only [go_sem, List.getElem?_toArray, str_beq, reduceCtorEq, Nat.reduceEqDiff, Nat.reduceLT, Nat.reduceLeDiff, Nat.reduceAdd, Nat.reduceMul, Nat.reduceSub, Nat.reduceBEq, ↓reduceIte, bne_self_eq_false, Bool.and_false, Bool.false_and, Bool.true_or, Bool.false_or, idxA hlt, atC])
              | (refine call_of (cA) ?_ ?_
                 · first | rfl | simp only [go_sem, List.getElem?_toArray, str_beq, reduceCtorEq, Nat.reduceEqDiff, Nat.reduceLT, Nat.reduceLeDiff, Nat.reduceAdd, Nat.reduceMul, Nat.reduceSub, Nat.reduceBEq, ↓reduceIte, bne_self_eq_false, Bool.and_false, Bool.false_and, Bool.true_or, Bool.false_or, idxA hlt, atC, shut_col]
                 simp only [go_sem, List.getElem?_toArray, str_beq, reduceCtorEq, Nat.reduceEqDiff, Nat.reduceLT, Nat.reduceLeDiff, Nat.reduceAdd, Nat.reduceMul, Nat.reduceSub, Nat.reduceBEq, ↓reduceIte, bne_self_eq_false, Bool.and_false, Bool.false_and, Bool.true_or, Bool.false_or, idxA hlt, atC])
              | refine k_of (by assumption) ?_
              | refine tr_block ?_
              | refine tr_scope ?_
              | (refine tr_skip ?_; try simp only [ex_seq, ex_block])
              | (refine tr_label ?_; try simp only [ex_seq, ex_block])
              | (refine tr_exit ?_; try simp only [ex_seq_exit, ex_block_exit, Nat.reduceEqDiff, if_true, if_false, ex_seq, ex_block, reduceCtorEq, ↓reduceIte])
              | (refine tr_ret ?_; try simp only [ex_seq_ret, ex_block_ret]))
          refine tr_cond rfl (fun ht => ?_) (fun hf => ?_)
          · repeat (first
                | refine tr_seq_k fun _ _ => ?_
                | (refine tr_region ?_; simp only [go_sem, List.getElem?_toArray, str_beq, reduceCtorEq, Nat.reduceEqDiff, Nat.reduceLT, Nat.reduceLeDiff, Nat.reduceAdd, Nat.reduceMul, Nat.reduceSub, Nat.reduceBEq, ↓reduceIte, bne_self_eq_false, Bool.and_false, Bool.false_and, Bool.true_or, Bool.false_or])
                | refine k_of (by assumption) ?_
                | refine tr_block ?_
                | refine tr_scope ?_
                | (refine tr_skip ?_; try simp only [ex_seq, ex_block])
                | (refine tr_label ?_; try simp only [ex_seq, ex_block])
                | (refine tr_exit ?_; try simp only [ex_seq_exit, ex_block_exit, Nat.reduceEqDiff, if_true, if_false, ex_seq, ex_block, reduceCtorEq, ↓reduceIte])
                | (refine tr_ret ?_; try simp only [ex_seq_ret, ex_block_ret]))
            refine (hQ _ _ [bA false] ?_ (fun m => ?_)).2 <;> simp only [go_sem, List.getElem?_toArray, str_beq, reduceCtorEq, Nat.reduceEqDiff, Nat.reduceLT, Nat.reduceLeDiff, Nat.reduceAdd, Nat.reduceMul, Nat.reduceSub, Nat.reduceBEq, ↓reduceIte, bne_self_eq_false, Bool.and_false, Bool.false_and, Bool.true_or, Bool.false_or, Tryd.f43, hr]
          · cases hf
        | true =>
          rw [hv] at cA
          repeat (first
              | refine tr_seq_k fun _ _ => ?_
              | (refine tr_region ?_; simp only [go_sem, List.getElem?_toArray, str_beq, reduceCtorEq, Nat.reduceEqDiff, Nat.reduceLT, Nat.reduceLeDiff, Nat.reduceAdd, Nat.reduceMul, Nat.reduceSub, Nat.reduceBEq, ↓reduceIte, bne_self_eq_false, Bool.and_false, Bool.false_and, Bool.true_or, Bool.false_or, idxA hlt, atC])
              | (refine call_of (cA) ?_ ?_
                 · first | rfl | simp only [go_sem, List.getElem?_toArray, str_beq, reduceCtorEq, Nat.reduceEqDiff, Nat.reduceLT, Nat.reduceLeDiff, Nat.reduceAdd, Nat.reduceMul, Nat.reduceSub, Nat.reduceBEq, ↓reduceIte, bne_self_eq_false, Bool.and_false, Bool.false_and, Bool.true_or, Bool.false_or, idxA hlt, atC, shut_col]
                 simp only [go_sem, List.getElem?_toArray, str_beq, reduceCtorEq, Nat.reduceEqDiff, Nat.reduceLT, Nat.reduceLeDiff, Nat.reduceAdd, Nat.reduceMul, Nat.reduceSub, Nat.reduceBEq, ↓reduceIte, bne_self_eq_false, Bool.and_false, Bool.false_and, Bool.true_or, Bool.false_or, idxA hlt, atC])
              | refine k_of (by assumption) ?_
              | refine tr_block ?_
              | refine tr_scope ?_
              | (refine tr_skip ?_; try simp only [ex_seq, ex_block])
              | (refine tr_label ?_; try simp only [ex_seq, ex_block])
              | (refine tr_exit ?_; try simp only [ex_seq_exit, ex_block_exit, Nat.reduceEqDiff, if_true, if_false, ex_seq, ex_block, reduceCtorEq, ↓reduceIte])
              | (refine tr_ret ?_; try simp only [ex_seq_ret, ex_block_ret]))
          refine tr_cond rfl (fun ht => ?_) (fun hf => ?_)
          · cases ht
          · repeat (first
                | refine tr_seq_k fun _ _ => ?_
                | (refine tr_region ?_; simp only [go_sem, List.getElem?_toArray, str_beq, reduceCtorEq, Nat.reduceEqDiff, Nat.reduceLT, Nat.reduceLeDiff, Nat.reduceAdd, Nat.reduceMul, Nat.reduceSub, Nat.reduceBEq, ↓reduceIte, bne_self_eq_false, Bool.and_false, Bool.false_and, Bool.true_or, Bool.false_or, ws])
                | refine k_of (by assumption) ?_
                | refine tr_block ?_
                | refine tr_scope ?_
                | (refine tr_skip ?_; try simp only [ex_seq, ex_block])
                | (refine tr_label ?_; try simp only [ex_seq, ex_block])
                | (refine tr_exit ?_; try simp only [ex_seq_exit, ex_block_exit, Nat.reduceEqDiff, if_true, if_false, ex_seq, ex_block, reduceCtorEq, ↓reduceIte])
                | (refine tr_ret ?_; try simp only [ex_seq_ret, ex_block_ret]))
            exact hK (k + 1) _ _ ⟨hlt, all_next hlt hp hv⟩ ⟨⟨rfl, rfl, trivial⟩, Keep.refl _, rfl, rfl, Nat.le_refl _, Nat.le_refl _⟩ (by omega)
      · have hkl : k = l.length := by
          have := of_decide_eq_false hf
          omega
        subst hkl
        rw [List.take_length] at hp
        have hr : lightAs l most = true := hz.trans hp
        repeat (first
            | refine tr_seq_k fun _ _ => ?_
            | (refine tr_region ?_; simp only [go_sem, List.getElem?_toArray, str_beq, reduceCtorEq, Nat.reduceEqDiff, Nat.reduceLT, Nat.reduceLeDiff, Nat.reduceAdd, Nat.reduceMul, Nat.reduceSub, Nat.reduceBEq, ↓reduceIte, bne_self_eq_false, Bool.and_false, Bool.false_and, Bool.true_or, Bool.false_or])
            | refine k_of (by assumption) ?_
            | refine tr_block ?_
            | refine tr_scope ?_
            | (refine tr_skip ?_; try simp only [ex_seq, ex_block])
            | (refine tr_label ?_; try simp only [ex_seq, ex_block])
            | (refine tr_exit ?_; try simp only [ex_seq_exit, ex_block_exit, Nat.reduceEqDiff, if_true, if_false, ex_seq, ex_block, reduceCtorEq, ↓reduceIte])
            | (refine tr_ret ?_; try simp only [ex_seq_ret, ex_block_ret]))
        refine (hQ _ _ [bA true] ?_ (fun m => ?_)).2 <;> simp only [go_sem, List.getElem?_toArray, str_beq, reduceCtorEq, Nat.reduceEqDiff, Nat.reduceLT, Nat.reduceLeDiff, Nat.reduceAdd, Nat.reduceMul, Nat.reduceSub, Nat.reduceBEq, ↓reduceIte, bne_self_eq_false, Bool.and_false, Bool.false_and, Bool.true_or, Bool.false_or, Tryd.f43, hr]
theorem bin_neA' (x y : Operand) (s t : Atm) : pureVal Tryd.prog (do eqGuard .neq 42 x y (.agg s.cells) (.agg t.cells); binOp .neq 42 (.agg s.cells) (.agg t.cells)) = some (.bool (!decide (s = t))) := by
  have hg : Tryd.prog.eqGuardType Tryd.prog.depth 42 = false := by kernel_rfl
  have h := pv_eq_at (d := 9996) s t
  have g : pureVal Tryd.prog (eqGuard .neq 42 x y (.agg s.cells) (.agg t.cells)) = some () := by
    simp [eqGuard, pv_bind, pv_prog, pv_pure, hg]
  rw [pv_bind, g, Option.bind_some]
  have e : binOp .neq 42 (.agg s.cells) (.agg t.cells) = (do pure (Value.bool (!(← Op.equal 42 (.agg s.cells) (.agg t.cells))))) := rfl
  rw [e, pv_bind]
  have h' : pureVal Tryd.prog (Op.equal 42 (.agg s.cells) (.agg t.cells)) = some (decide (s = t)) := h
  rw [h']
  rfl
theorem bin_neA (x y : Operand) (s t : Atm) : pureVal Tryd.prog (do eqGuard .neq 42 x y (.agg [.string s.says, .string s.pred, .int .i64 s.n, .bool s.a0.v, .string s.a0.name, .bool s.a1.v, .string s.a1.name, .bool s.a2.v, .string s.a2.name, .bool s.a3.v, .string s.a3.name].toArray) (.agg [.string t.says, .string t.pred, .int .i64 t.n, .bool t.a0.v, .string t.a0.name, .bool t.a1.v, .string t.a1.name, .bool t.a2.v, .string t.a2.name, .bool t.a3.v, .string t.a3.name].toArray); binOp .neq 42 (.agg [.string s.says, .string s.pred, .int .i64 s.n, .bool s.a0.v, .string s.a0.name, .bool s.a1.v, .string s.a1.name, .bool s.a2.v, .string s.a2.name, .bool s.a3.v, .string s.a3.name].toArray) (.agg [.string t.says, .string t.pred, .int .i64 t.n, .bool t.a0.v, .string t.a0.name, .bool t.a1.v, .string t.a1.name, .bool t.a2.v, .string t.a2.name, .bool t.a3.v, .string t.a3.name].toArray)) = some (.bool (!decide (s = t))) := bin_neA' x y s t
theorem sameA_does (a b : List Atm) (ex ex2 : Bool) (hl : a.length ≤ 1000000) : Does Tryd.prog 66 [slT ex a, slT ex2 b] (fun m => (bA (decide (a = b)), m)) := by
  cases h1 : decide ((a.length : Int) = (b.length : Int)) with
  | false =>
    have hr : decide (a = b) = false := decide_eq_false fun e => of_decide_eq_false h1 (by rw [e])
    refine does_of' Tryd.func66 rfl (by kernel_rfl) rfl Tryd.ntmps66 rfl rfl fun Q hQ => ?_
    repeat (first
        | refine tr_seq_k fun _ _ => ?_
        | (refine tr_region ?_; simp only [go_sem, List.getElem?_toArray, str_beq, reduceCtorEq, Nat.reduceEqDiff, Nat.reduceLT, Nat.reduceLeDiff, Nat.reduceAdd, Nat.reduceMul, Nat.reduceSub, Nat.reduceBEq, ↓reduceIte, bne_self_eq_false, Bool.and_false, Bool.false_and, Bool.true_or, Bool.false_or, h1])
        | (refine tr_drawC (id := 6) follows 10000 (by kernel_rfl) ?_; simp only [go_sem, List.getElem?_toArray, str_beq, reduceCtorEq, Nat.reduceEqDiff, Nat.reduceLT, Nat.reduceLeDiff, Nat.reduceAdd, Nat.reduceMul, Nat.reduceSub, Nat.reduceBEq, ↓reduceIte, bne_self_eq_false, Bool.and_false, Bool.false_and, Bool.true_or, Bool.false_or, h1])
        | refine k_of (by assumption) ?_
        | refine tr_block ?_
        | refine tr_scope ?_
        | (refine tr_skip ?_; try simp only [ex_seq, ex_block])
        | (refine tr_label ?_; try simp only [ex_seq, ex_block])
        | (refine tr_exit ?_; try simp only [ex_seq_exit, ex_block_exit, Nat.reduceEqDiff, if_true, if_false, ex_seq, ex_block, reduceCtorEq, ↓reduceIte])
        | (refine tr_ret ?_; try simp only [ex_seq_ret, ex_block_ret]))
    refine tr_cond rfl (fun ht => ?_) (fun hf => ?_)
    · repeat (first
          | refine tr_seq_k fun _ _ => ?_
          | (refine tr_region ?_; simp only [go_sem, List.getElem?_toArray, str_beq, reduceCtorEq, Nat.reduceEqDiff, Nat.reduceLT, Nat.reduceLeDiff, Nat.reduceAdd, Nat.reduceMul, Nat.reduceSub, Nat.reduceBEq, ↓reduceIte, bne_self_eq_false, Bool.and_false, Bool.false_and, Bool.true_or, Bool.false_or])
          | (refine tr_drawC (id := 6) follows 10000 (by kernel_rfl) ?_; simp only [go_sem, List.getElem?_toArray, str_beq, reduceCtorEq, Nat.reduceEqDiff, Nat.reduceLT, Nat.reduceLeDiff, Nat.reduceAdd, Nat.reduceMul, Nat.reduceSub, Nat.reduceBEq, ↓reduceIte, bne_self_eq_false, Bool.and_false, Bool.false_and, Bool.true_or, Bool.false_or])
          | refine k_of (by assumption) ?_
          | refine tr_block ?_
          | refine tr_scope ?_
          | (refine tr_skip ?_; try simp only [ex_seq, ex_block])
          | (refine tr_label ?_; try simp only [ex_seq, ex_block])
          | (refine tr_exit ?_; try simp only [ex_seq_exit, ex_block_exit, Nat.reduceEqDiff, if_true, if_false, ex_seq, ex_block, reduceCtorEq, ↓reduceIte])
          | (refine tr_ret ?_; try simp only [ex_seq_ret, ex_block_ret]))
      refine (hQ _ _ [bA false] ?_ (fun m => ?_)).2 <;> simp only [go_sem, List.getElem?_toArray, str_beq, reduceCtorEq, Nat.reduceEqDiff, Nat.reduceLT, Nat.reduceLeDiff, Nat.reduceAdd, Nat.reduceMul, Nat.reduceSub, Nat.reduceBEq, ↓reduceIte, bne_self_eq_false, Bool.and_false, Bool.false_and, Bool.true_or, Bool.false_or, Tryd.f66, hr]
    · cases hf
  | true =>
    have hlen : a.length = b.length := by
      have := of_decide_eq_true h1
      omega
    refine does_of' Tryd.func66 rfl (by kernel_rfl) rfl Tryd.ntmps66 rfl rfl fun Q hQ => ?_
    repeat (first
        | refine tr_seq_k fun _ _ => ?_
        | (refine tr_region ?_; simp only [go_sem, List.getElem?_toArray, str_beq, reduceCtorEq, Nat.reduceEqDiff, Nat.reduceLT, Nat.reduceLeDiff, Nat.reduceAdd, Nat.reduceMul, Nat.reduceSub, Nat.reduceBEq, ↓reduceIte, bne_self_eq_false, Bool.and_false, Bool.false_and, Bool.true_or, Bool.false_or, h1])
        | (refine tr_drawC (id := 6) follows 10000 (by kernel_rfl) ?_; simp only [go_sem, List.getElem?_toArray, str_beq, reduceCtorEq, Nat.reduceEqDiff, Nat.reduceLT, Nat.reduceLeDiff, Nat.reduceAdd, Nat.reduceMul, Nat.reduceSub, Nat.reduceBEq, ↓reduceIte, bne_self_eq_false, Bool.and_false, Bool.false_and, Bool.true_or, Bool.false_or, h1])
        | refine k_of (by assumption) ?_
        | refine tr_block ?_
        | refine tr_scope ?_
        | (refine tr_skip ?_; try simp only [ex_seq, ex_block])
        | (refine tr_label ?_; try simp only [ex_seq, ex_block])
        | (refine tr_exit ?_; try simp only [ex_seq_exit, ex_block_exit, Nat.reduceEqDiff, if_true, if_false, ex_seq, ex_block, reduceCtorEq, ↓reduceIte])
        | (refine tr_ret ?_; try simp only [ex_seq_ret, ex_block_ret]))
    refine tr_cond rfl (fun ht => ?_) (fun hf => ?_)
    · cases ht
    · repeat (first
          | refine tr_seq_k fun _ _ => ?_
          | (refine tr_region ?_; simp only [go_sem, List.getElem?_toArray, str_beq, reduceCtorEq, Nat.reduceEqDiff, Nat.reduceLT, Nat.reduceLeDiff, Nat.reduceAdd, Nat.reduceMul, Nat.reduceSub, Nat.reduceBEq, ↓reduceIte, bne_self_eq_false, Bool.and_false, Bool.false_and, Bool.true_or, Bool.false_or])
          | (refine tr_drawC (id := 6) follows 10000 (by kernel_rfl) ?_; simp only [go_sem, List.getElem?_toArray, str_beq, reduceCtorEq, Nat.reduceEqDiff, Nat.reduceLT, Nat.reduceLeDiff, Nat.reduceAdd, Nat.reduceMul, Nat.reduceSub, Nat.reduceBEq, ↓reduceIte, bne_self_eq_false, Bool.and_false, Bool.false_and, Bool.true_or, Bool.false_or])
          | refine k_of (by assumption) ?_
          | refine tr_block ?_
          | refine tr_scope ?_
          | (refine tr_skip ?_; try simp only [ex_seq, ex_block])
          | (refine tr_label ?_; try simp only [ex_seq, ex_block])
          | (refine tr_exit ?_; try simp only [ex_seq_exit, ex_block_exit, Nat.reduceEqDiff, if_true, if_false, ex_seq, ex_block, reduceCtorEq, ↓reduceIte])
          | (refine tr_ret ?_; try simp only [ex_seq_ret, ex_block_ret]))
      refine tr_loop_k (σ := Nat) (fun k => [(0, slT ex a), (1, slT ex2 b), (5, iA k)]) (fun _ => ⟨[], []⟩)
        (fun k => k ≤ a.length ∧ a.take k = b.take k) (fun k => a.length - k) 0 ⟨Nat.zero_le _, rfl⟩ ⟨rfl, rfl, rfl, trivial⟩ rfl ?_
      rintro k ⟨hk, hp⟩ K hK
      repeat (first
          | refine tr_seq_k fun _ _ => ?_
          | (refine tr_region ?_; simp only [go_sem, List.getElem?_toArray, str_beq, reduceCtorEq, Nat.reduceEqDiff, Nat.reduceLT, Nat.reduceLeDiff, Nat.reduceAdd, Nat.reduceMul, Nat.reduceSub, Nat.reduceBEq, ↓reduceIte, bne_self_eq_false, Bool.and_false, Bool.false_and, Bool.true_or, Bool.false_or])
          | (refine tr_drawC (id := 6) follows 10000 (by kernel_rfl) ?_; simp only [go_sem, List.getElem?_toArray, str_beq, reduceCtorEq, Nat.reduceEqDiff, Nat.reduceLT, Nat.reduceLeDiff, Nat.reduceAdd, Nat.reduceMul, Nat.reduceSub, Nat.reduceBEq, ↓reduceIte, bne_self_eq_false, Bool.and_false, Bool.false_and, Bool.true_or, Bool.false_or])
          | refine k_of (by assumption) ?_
          | refine tr_block ?_
          | refine tr_scope ?_
          | (refine tr_skip ?_; try simp only [ex_seq, ex_block])
          | (refine tr_label ?_; try simp only [ex_seq, ex_block])
          | (refine tr_exit ?_; try simp only [ex_seq_exit, ex_block_exit, Nat.reduceEqDiff, if_true, if_false, ex_seq, ex_block, reduceCtorEq, ↓reduceIte])
          | (refine tr_ret ?_; try simp only [ex_seq_ret, ex_block_ret]))
      refine tr_cond rfl (fun ht => ?_) (fun hf => ?_)
      · have hlt : k < a.length := by simpa using ht
        have hlb : k < b.length := by omega
        have ws := wrap_succ (show k ≤ 1000000000 by omega)
        have eA := fun x y => bin_neA x y a[k] b[k]
        simp only [pv_bind] at eA
        cases h2 : decide (a[k] = b[k]) with
        | false =>
          have hr : decide (a = b) = false := decide_eq_false fun e => of_decide_eq_false h2 (by subst e; rfl)
          simp only [h2, Bool.not_false] at eA
          repeat (first
              | refine tr_seq_k fun _ _ => ?_
              | (refine tr_region ?_; simp only [go_sem, List.getElem?_toArray, str_beq, reduceCtorEq, Nat.reduceEqDiff, Nat.reduceLT, Nat.reduceLeDiff, Nat.reduceAdd, Nat.reduceMul, Nat.reduceSub, Nat.reduceBEq, ↓reduceIte, bne_self_eq_false, Bool.and_false, Bool.false_and, Bool.true_or, Bool.false_or, idxA hlt, idxA hlb, atC, eA])
              | (refine tr_drawC (id := 6) follows 10000 (by kernel_rfl) ?_; simp only [go_sem, List.getElem?_toArray, str_beq, reduceCtorEq, Nat.reduceEqDiff, Nat.reduceLT, Nat.reduceLeDiff, Nat.reduceAdd, Nat.reduceMul, Nat.reduceSub, Nat.reduceBEq, ↓reduceIte, bne_self_eq_false, Bool.and_false, Bool.false_and, Bool.true_or, Bool.false_or, idxA hlt, idxA hlb, atC, eA])
              | refine k_of (by assumption) ?_
              | refine tr_block ?_
              | refine tr_scope ?_
              | (refine tr_skip ?_; try simp only [ex_seq, ex_block])
              | (refine tr_label ?_; try simp only [ex_seq, ex_block])
              | (refine tr_exit ?_; try simp only [ex_seq_exit, ex_block_exit, Nat.reduceEqDiff, if_true, if_false, ex_seq, ex_block, reduceCtorEq, ↓reduceIte])
              | (refine tr_ret ?_; try simp only [ex_seq_ret, ex_block_ret]))
          refine tr_cond rfl (fun ht => ?_) (fun hf => ?_)
          · repeat (first
                | refine tr_seq_k fun _ _ => ?_
                | (refine tr_region ?_; simp only [go_sem, List.getElem?_toArray, str_beq, reduceCtorEq, Nat.reduceEqDiff, Nat.reduceLT, Nat.reduceLeDiff, Nat.reduceAdd, Nat.reduceMul, Nat.reduceSub, Nat.reduceBEq, ↓reduceIte, bne_self_eq_false, Bool.and_false, Bool.false_and, Bool.true_or, Bool.false_or])
                | (refine tr_drawC (id := 6) follows 10000 (by kernel_rfl) ?_; simp only [go_sem, List.getElem?_toArray, str_beq, reduceCtorEq, Nat.reduceEqDiff, Nat.reduceLT, Nat.reduceLeDiff, Nat.reduceAdd, Nat.reduceMul, Nat.reduceSub, Nat.reduceBEq, ↓reduceIte, bne_self_eq_false, Bool.and_false, Bool.false_and, Bool.true_or, Bool.false_or])
                | refine k_of (by assumption) ?_
                | refine tr_block ?_
                | refine tr_scope ?_
                | (refine tr_skip ?_; try simp only [ex_seq, ex_block])
                | (refine tr_label ?_; try simp only [ex_seq, ex_block])
                | (refine tr_exit ?_; try simp only [ex_seq_exit, ex_block_exit, Nat.reduceEqDiff, if_true, if_false, ex_seq, ex_block, reduceCtorEq, ↓reduceIte])
                | (refine tr_ret ?_; try simp only [ex_seq_ret, ex_block_ret]))
            refine (hQ _ _ [bA false] ?_ (fun m => ?_)).2 <;> simp only [go_sem, List.getElem?_toArray, str_beq, reduceCtorEq, Nat.reduceEqDiff, Nat.reduceLT, Nat.reduceLeDiff, Nat.reduceAdd, Nat.reduceMul, Nat.reduceSub, Nat.reduceBEq, ↓reduceIte, bne_self_eq_false, Bool.and_false, Bool.false_and, Bool.true_or, Bool.false_or, Tryd.f66, hr]
          · cases hf
        | true =>
          simp only [h2, Bool.not_true] at eA
          repeat (first
              | refine tr_seq_k fun _ _ => ?_
              | (refine tr_region ?_; simp only [go_sem, List.getElem?_toArray, str_beq, reduceCtorEq, Nat.reduceEqDiff, Nat.reduceLT, Nat.reduceLeDiff, Nat.reduceAdd, Nat.reduceMul, Nat.reduceSub, Nat.reduceBEq, ↓reduceIte, bne_self_eq_false, Bool.and_false, Bool.false_and, Bool.true_or, Bool.false_or, idxA hlt, idxA hlb, atC, eA])
              | (refine tr_drawC (id := 6) follows 10000 (by kernel_rfl) ?_; simp only [go_sem, List.getElem?_toArray, str_beq, reduceCtorEq, Nat.reduceEqDiff, Nat.reduceLT, Nat.reduceLeDiff, Nat.reduceAdd, Nat.reduceMul, Nat.reduceSub, Nat.reduceBEq, ↓reduceIte, bne_self_eq_false, Bool.and_false, Bool.false_and, Bool.true_or, Bool.false_or, idxA hlt, idxA hlb, atC, eA])
              | refine k_of (by assumption) ?_
              | refine tr_block ?_
              | refine tr_scope ?_
              | (refine tr_skip ?_; try simp only [ex_seq, ex_block])
              | (refine tr_label ?_; try simp only [ex_seq, ex_block])
              | (refine tr_exit ?_; try simp only [ex_seq_exit, ex_block_exit, Nat.reduceEqDiff, if_true, if_false, ex_seq, ex_block, reduceCtorEq, ↓reduceIte])
              | (refine tr_ret ?_; try simp only [ex_seq_ret, ex_block_ret]))
          refine tr_cond rfl (fun ht => ?_) (fun hf => ?_)
          · cases ht
          · repeat (first
                | refine tr_seq_k fun _ _ => ?_
                | (refine tr_region ?_; simp only [go_sem, List.getElem?_toArray, str_beq, reduceCtorEq, Nat.reduceEqDiff, Nat.reduceLT, Nat.reduceLeDiff, Nat.reduceAdd, Nat.reduceMul, Nat.reduceSub, Nat.reduceBEq, ↓reduceIte, bne_self_eq_false, Bool.and_false, Bool.false_and, Bool.true_or, Bool.false_or, ws])
                | (refine tr_drawC (id := 6) follows 10000 (by kernel_rfl) ?_; simp only [go_sem, List.getElem?_toArray, str_beq, reduceCtorEq, Nat.reduceEqDiff, Nat.reduceLT, Nat.reduceLeDiff, Nat.reduceAdd, Nat.reduceMul, Nat.reduceSub, Nat.reduceBEq, ↓reduceIte, bne_self_eq_false, Bool.and_false, Bool.false_and, Bool.true_or, Bool.false_or, ws])
                | refine k_of (by assumption) ?_
                | refine tr_block ?_
                | refine tr_scope ?_
                | (refine tr_skip ?_; try simp only [ex_seq, ex_block])
                | (refine tr_label ?_; try simp only [ex_seq, ex_block])
                | (refine tr_exit ?_; try simp only [ex_seq_exit, ex_block_exit, Nat.reduceEqDiff, if_true, if_false, ex_seq, ex_block, reduceCtorEq, ↓reduceIte])
                | (refine tr_ret ?_; try simp only [ex_seq_ret, ex_block_ret]))
            exact hK (k + 1) _ _ ⟨hlt, take_next_eq hlt hlb hp (of_decide_eq_true h2)⟩ ⟨⟨rfl, rfl, rfl, trivial⟩, Keep.refl _, rfl, rfl, Nat.le_refl _, Nat.le_refl _⟩ (by omega)
      · have hkl : k = a.length := by
          have := of_decide_eq_false hf
          omega
        have hr : decide (a = b) = true := by
          rw [hkl, List.take_length, hlen, List.take_length] at hp
          exact decide_eq_true hp
        repeat (first
            | refine tr_seq_k fun _ _ => ?_
            | (refine tr_region ?_; simp only [go_sem, List.getElem?_toArray, str_beq, reduceCtorEq, Nat.reduceEqDiff, Nat.reduceLT, Nat.reduceLeDiff, Nat.reduceAdd, Nat.reduceMul, Nat.reduceSub, Nat.reduceBEq, ↓reduceIte, bne_self_eq_false, Bool.and_false, Bool.false_and, Bool.true_or, Bool.false_or])
            | (refine tr_drawC (id := 6) follows 10000 (by kernel_rfl) ?_; simp only [go_sem, List.getElem?_toArray, str_beq, reduceCtorEq, Nat.reduceEqDiff, Nat.reduceLT, Nat.reduceLeDiff, Nat.reduceAdd, Nat.reduceMul, Nat.reduceSub, Nat.reduceBEq, ↓reduceIte, bne_self_eq_false, Bool.and_false, Bool.false_and, Bool.true_or, Bool.false_or])
            | refine k_of (by assumption) ?_
            | refine tr_block ?_
            | refine tr_scope ?_
            | (refine tr_skip ?_; try simp only [ex_seq, ex_block])
            | (refine tr_label ?_; try simp only [ex_seq, ex_block])
            | (refine tr_exit ?_; try simp only [ex_seq_exit, ex_block_exit, Nat.reduceEqDiff, if_true, if_false, ex_seq, ex_block, reduceCtorEq, ↓reduceIte])
            | (refine tr_ret ?_; try simp only [ex_seq_ret, ex_block_ret]))
        refine (hQ _ _ [bA true] ?_ (fun m => ?_)).2 <;> simp only [go_sem, List.getElem?_toArray, str_beq, reduceCtorEq, Nat.reduceEqDiff, Nat.reduceLT, Nat.reduceLeDiff, Nat.reduceAdd, Nat.reduceMul, Nat.reduceSub, Nat.reduceBEq, ↓reduceIte, bne_self_eq_false, Bool.and_false, Bool.false_and, Bool.true_or, Bool.false_or, Tryd.f66, hr]
end Go.Proofs.YtaeehadibckcjaaDoor

/-
  Chapter 5: contracts on abstract values: Under, All.
-/
namespace Go.Proofs.YtaeehadibckcjaaDoor
open Go.Vs Go.Vs.Ab
set_option maxRecDepth 100000
theorem args_get (p : Atm) {n k : Nat} (hn : n ≤ 4) (h : k < (p.args.take n).length) : (p.args.take n)[k] = p.arg k := by
  rw [List.getElem_take]
  rw [List.length_take] at h
  have hk : k < 4 := by omega
  obtain rfl | rfl | rfl | rfl : k = 0 ∨ k = 1 ∨ k = 2 ∨ k = 3 := by omega
  all_goals rfl
theorem args_len (p : Atm) {n : Nat} (hn : n ≤ 4) : (p.args.take n).length = n := by
  rw [List.length_take, Nat.min_eq_left (by show n ≤ 4; exact hn)]
theorem ptm_some {p : Atm} {k j : Nat} (hk : k ≤ 4) (h : pidx p k = some j) : ptmAt (p.args.take k) (p.arg k) = (j : Int) := by
  obtain ⟨h1, h2⟩ := pidx_some h
  have hl := args_len p hk
  unfold ptmAt
  rw [findIdx_hit (k := j) (by rw [hl]; exact h1)]
  · rw [List.any_eq_false]
    intro t ht
    obtain ⟨i, hi, rfl⟩ := List.mem_iff_getElem.1 ht
    rw [List.length_take, hl] at hi
    rw [List.getElem_take, args_get p hk (by rw [hl]; omega)]
    simp only [decide_eq_true_eq]
    intro e
    unfold pidx at h
    obtain ⟨_, xs, ys, e1, e2⟩ := List.find?_eq_some_iff_append.1 h
    have him : i ∈ xs ++ j :: ys := by rw [← e1]; exact List.mem_range.2 (by omega)
    have hs : (xs ++ j :: ys).Pairwise (· < ·) := by rw [← e1]; exact List.pairwise_lt_range
    rw [List.pairwise_append, List.pairwise_cons] at hs
    rw [List.mem_append, List.mem_cons] at him
    rcases him with him | him | him
    · have := e2 i him
      simp [e] at this
    · omega
    · have := hs.2.1.1 i him
      omega
  · rw [args_get p hk (by rw [hl]; omega), h2]
    exact decide_eq_true rfl
theorem ptm_none {p : Atm} {k : Nat} (hk : k ≤ 4) (h : pidx p k = none) : ptmAt (p.args.take k) (p.arg k) = -1 := by
  have hl := args_len p hk
  unfold ptmAt
  rw [findIdx_none]
  rw [List.any_eq_false]
  intro t ht
  obtain ⟨i, hi, rfl⟩ := List.mem_iff_getElem.1 ht
  rw [args_get p hk hi]
  simp only [decide_eq_true_eq]
  exact fun e => pidx_none h i (by omega) e.symm
set_option maxRecDepth 100000
set_option maxHeartbeats 2000000
theorem pall_next (p : Atm) {l : List Atm} {k : Nat} (h : k < l.length) : pall p (l.take (k + 1)) = pall p (l.take k) ++ (if pmatch p l[k] = true then [l[k]] else []) := by
  unfold pall
  rw [List.take_succ_eq_append_getElem h, List.filter_append]
  congr 1
  cases hm : pmatch p l[k] with
  | true => rw [List.filter_cons_of_pos hm]; rfl
  | false => rw [List.filter_cons_of_neg (by rw [hm]; exact fun e => Bool.noConfusion e)]; rfl
theorem build1A (a : Atm) : aBuildSlice Tryd.prog 43 1 [(0, .agg [.v (.string a.says), .v (.string a.pred), .v (.int .i64 a.n), .v (.bool a.a0.v), .v (.string a.a0.name), .v (.bool a.a1.v), .v (.string a.a1.name), .v (.bool a.a2.v), .v (.string a.a2.name), .v (.bool a.a3.v), .v (.string a.a3.name)])] = some [.v (.string a.says), .v (.string a.pred), .v (.int .i64 a.n), .v (.bool a.a0.v), .v (.string a.a0.name), .v (.bool a.a1.v), .v (.string a.a1.name), .v (.bool a.a2.v), .v (.string a.a2.name), .v (.bool a.a3.v), .v (.string a.a3.name)] := build1 Tryd.underlying43 sz42 ze42 (by decide) (by decide) (by decide) rfl rfl
theorem appA (hp : List Blk) (l : List Atm) (a : Atm) (hl : l.length ≤ 1000000) : aAppend Tryd.prog ⟨hp, colH 42 11 l⟩ 43 (colA atC 0 l) (.c (.sl true 1 [.v (.string a.says), .v (.string a.pred), .v (.int .i64 a.n), .v (.bool a.a0.v), .v (.string a.a0.name), .v (.bool a.a1.v), .v (.string a.a1.name), .v (.bool a.a2.v), .v (.string a.a2.name), .v (.bool a.a3.v), .v (.string a.a3.name)])) = some (colA atC 0 (l ++ [a]), ⟨hp, colH 42 11 (l ++ [a])⟩) :=
  app_col0 (P := Tryd.prog) atC (size := 11) (fun _ => rfl) Tryd.underlying43 info_a (hp := hp) (l := l) (x := a) (ex := true) (Nat.le_trans (show _ ≤ 1000001 by omega) (by decide)) (by omega)
end Go.Proofs.YtaeehadibckcjaaDoor

/-
  Chapter 7: contracts on abstract values: canonical atoms.
-/
namespace Go.Proofs.YtaeehadibckcjaaDoor
open Go.Vs Go.Vs.Ab
set_option maxRecDepth 100000
set_option maxHeartbeats 4000000
/-! ### names, by their places -/
def dig1 (n : Nat) : ByteArray := ⟨#[UInt8.ofNat (48 + n)]⟩
def vname (n : Nat) : ByteArray := ⟨#[86, UInt8.ofNat (48 + n)]⟩
def pct (V : List ByteArray) (t : Tm) : Tm := if t.v then ⟨true, vname (posOf V t.name)⟩ else t
def pcanon (a : Atm) : Atm := a.upto (pct (pnames a true)) a.count
theorem mem_pnamesK {a : Atm} {x : ByteArray} : ∀ {k : Nat}, k ≤ 4 → (x ∈ pnamesK a true k ↔ ∃ i, i < k ∧ (a.arg i).v = true ∧ (a.arg i).name = x)
  | 0, _ => ⟨fun h => by simp [pnamesK] at h, fun ⟨i, h, _⟩ => absurd h (Nat.not_lt_zero _)⟩
  | k + 1, hk => by
    refine ⟨mem_pnames, fun ⟨i, h1, h2, h3⟩ => ?_⟩
    have ih := mem_pnamesK (a := a) (x := x) (k := k) (by omega)
    unfold pnamesK
    rw [List.mem_append]
    by_cases hi : i < k
    · exact Or.inl (ih.2 ⟨i, hi, h2, h3⟩)
    · obtain rfl : i = k := by omega
      cases hs : pseen a i i with
      | true =>
        obtain ⟨j, g1, g2⟩ := (pseen_iff a i (by omega)).1 hs
        exact Or.inl (ih.2 ⟨j, g1, by rw [g2]; exact h2, by rw [g2]; exact h3⟩)
      | false =>
        right
        rw [if_pos ⟨h2, rfl⟩, h3]
        exact List.mem_singleton.2 rfl
theorem pnamesK_const {a : Atm} {k : Nat} (h : (a.arg k).v = false) : pnamesK a true (k + 1) = pnamesK a true k := by
  show pnamesK a true k ++ _ = _
  rw [if_neg (fun e => by rw [h] at e; cases e.1), List.append_nil]
theorem pnamesK_old {a : Atm} {k : Nat} (hk : k < 4) (h : (a.arg k).v = true) (hm : (a.arg k).name ∈ pnamesK a true k) : pnamesK a true (k + 1) = pnamesK a true k := by
  obtain ⟨j, g1, g2, g3⟩ := mem_pnames hm
  have : pseen a k k = true := (pseen_iff a k (by omega)).2 ⟨j, g1, by
    have e1 : a.arg j = ⟨(a.arg j).v, (a.arg j).name⟩ := rfl
    have e2 : a.arg k = ⟨(a.arg k).v, (a.arg k).name⟩ := rfl
    rw [e1, e2, g2, g3, h]⟩
  show pnamesK a true k ++ _ = _
  rw [if_neg (fun e => by rw [this] at e; cases e.2), List.append_nil]
theorem pnamesK_new {a : Atm} {k : Nat} (hk : k < 4) (h : (a.arg k).v = true) (hm : (a.arg k).name ∉ pnamesK a true k) : pnamesK a true (k + 1) = pnamesK a true k ++ [(a.arg k).name] := by
  show pnamesK a true k ++ _ = _
  rw [if_pos]
  refine ⟨h, ?_⟩
  rw [Bool.eq_false_iff]
  intro hs
  obtain ⟨j, g1, g2⟩ := (pseen_iff a k (by omega)).1 hs
  exact hm ((mem_pnamesK (by omega)).2 ⟨j, g1, by rw [g2]; exact h, by rw [g2]⟩)
theorem pnamesK_len (a : Atm) : ∀ k, (pnamesK a true k).length ≤ k
  | 0 => Nat.le_refl _
  | k + 1 => by
    show (pnamesK a true k ++ _).length ≤ _
    have := pnamesK_len a k
    rw [List.length_append]
    split <;> simp <;> omega
theorem pnamesK_pre (a : Atm) (k : Nat) : ∀ n, ∃ r, pnamesK a true (k + n) = pnamesK a true k ++ r
  | 0 => ⟨[], by simp⟩
  | n + 1 => by
    obtain ⟨r, hr⟩ := pnamesK_pre a k n
    refine ⟨r ++ (if (a.arg (k + n)).v = true ∧ pseen a (k + n) (k + n) = false then [(a.arg (k + n)).name] else []), ?_⟩
    rw [← List.append_assoc, ← hr]
    rfl
theorem pos_pre {a : Atm} {k : Nat} {x : ByteArray} (hk : k ≤ a.count) (hx : x ∈ pnamesK a true k) : posOf (pnames a true) x = posOf (pnamesK a true k) x := by
  obtain ⟨r, hr⟩ := pnamesK_pre a k (a.count - k)
  unfold pnames
  rw [show a.count = k + (a.count - k) by omega, hr]
  exact posOf_append hx
theorem itoa_does {k : Nat} (h : k < 4) : Does Tryd.prog 37 [iA k] (fun m => (sA (dig1 k), m)) := by
  have hc := callable Tryd.func37 (by kernel_rfl)
  obtain rfl | rfl | rfl | rfl : k = 0 ∨ k = 1 ∨ k = 2 ∨ k = 3 := by omega
  · exact does_of_evA (v := .string (dig1 0)) (H := lookH []) (n := 20) follows hc rfl rfl (by kernel_rfl)
  · exact does_of_evA (v := .string (dig1 1)) (H := lookH []) (n := 20) follows hc rfl rfl (by kernel_rfl)
  · exact does_of_evA (v := .string (dig1 2)) (H := lookH []) (n := 20) follows hc rfl rfl (by kernel_rfl)
  · exact does_of_evA (v := .string (dig1 3)) (H := lookH []) (n := 20) follows hc rfl rfl (by kernel_rfl)
theorem upto_same {f : Tm → Tm} {a : Atm} {k : Nat} (hk : k < 4) (h : f (a.arg k) = a.arg k) : a.upto f (k + 1) = a.upto f k := by
  rw [← setArg_upto f a hk, h]
  have := upto_here f a hk
  generalize a.upto f k = b at *
  rw [← this]
  obtain rfl | rfl | rfl | rfl : k = 0 ∨ k = 1 ∨ k = 2 ∨ k = 3 := by omega
  all_goals rfl
theorem atSetN (b : Atm) {k : Nat} (h : k < 4) (x : ByteArray) : List.take (3 + k * 2) ([.c (.v (.string b.pred)), .c (.v (.int .i64 b.n)), .c (.v (.bool b.a0.v)), .c (.v (.string b.a0.name)), .c (.v (.bool b.a1.v)), .c (.v (.string b.a1.name)), .c (.v (.bool b.a2.v)), .c (.v (.string b.a2.name)), .c (.v (.bool b.a3.v)), .c (.v (.string b.a3.name))] : List AV) ++ ([.c (.v (.string x))] : List AV) ++ List.drop (3 + k * 2) ([.c (.v (.int .i64 b.n)), .c (.v (.bool b.a0.v)), .c (.v (.string b.a0.name)), .c (.v (.bool b.a1.v)), .c (.v (.string b.a1.name)), .c (.v (.bool b.a2.v)), .c (.v (.string b.a2.name)), .c (.v (.bool b.a3.v)), .c (.v (.string b.a3.name))] : List AV) = ([.c (.v (.string (Atm.setArg b k ⟨(b.arg k).v, x⟩).pred)), .c (.v (.int .i64 (Atm.setArg b k ⟨(b.arg k).v, x⟩).n)), .c (.v (.bool (Atm.setArg b k ⟨(b.arg k).v, x⟩).a0.v)), .c (.v (.string (Atm.setArg b k ⟨(b.arg k).v, x⟩).a0.name)), .c (.v (.bool (Atm.setArg b k ⟨(b.arg k).v, x⟩).a1.v)), .c (.v (.string (Atm.setArg b k ⟨(b.arg k).v, x⟩).a1.name)), .c (.v (.bool (Atm.setArg b k ⟨(b.arg k).v, x⟩).a2.v)), .c (.v (.string (Atm.setArg b k ⟨(b.arg k).v, x⟩).a2.name)), .c (.v (.bool (Atm.setArg b k ⟨(b.arg k).v, x⟩).a3.v)), .c (.v (.string (Atm.setArg b k ⟨(b.arg k).v, x⟩).a3.name))] : List AV) := by
  obtain rfl | rfl | rfl | rfl : k = 0 ∨ k = 1 ∨ k = 2 ∨ k = 3 := by omega
  all_goals rfl
theorem leN {k : Nat} (h : k < 4) : (3 + k * 2 ≤ 9) = True := eq_true (by omega)
theorem zaI : tzeroA Tryd.prog 3 = some (.c (.v (.int .i64 0))) := by kernel_rfl
theorem vcat {n : Nat} (h : n < 4) : pureVal Tryd.prog (Op.stringOp .add ⟨#[86]⟩ (dig1 n)) = some (.string (vname n)) := by
  rw [so_add (by show 1 + 1 ≤ _; decide)]
  obtain rfl | rfl | rfl | rfl : n = 0 ∨ n = 1 ∨ n = 2 ∨ n = 3 := by omega
  all_goals rfl
theorem canon_step {a : Atm} {k n : Nat} (hk : k < a.count) (hv : (a.arg k).v = true) (hn : posOf (pnames a true) (a.arg k).name = n) : Atm.setArg (a.upto (pct (pnames a true)) k) k ⟨(a.arg k).v, vname n⟩ = a.upto (pct (pnames a true)) (k + 1) := by
  have h4 := a.count_le
  rw [← setArg_upto (pct (pnames a true)) a (show k < 4 by omega)]
  unfold pct
  rw [if_pos hv, hv, hn]
end Go.Proofs.YtaeehadibckcjaaDoor

/-
  Chapter 7: contracts on abstract values: Same, Distinct.
-/
namespace Go.Proofs.YtaeehadibckcjaaDoor
open Go.Vs Go.Vs.Ab
set_option maxRecDepth 100000
set_option maxHeartbeats 4000000
theorem bin_eqA2 (x y : Operand) (s t : Atm) : pureVal Tryd.prog (do eqGuard .eql 42 x y (.agg [.string s.says, .string s.pred, .int .i64 s.n, .bool s.a0.v, .string s.a0.name, .bool s.a1.v, .string s.a1.name, .bool s.a2.v, .string s.a2.name, .bool s.a3.v, .string s.a3.name].toArray : Value) (.agg [.string t.says, .string t.pred, .int .i64 t.n, .bool t.a0.v, .string t.a0.name, .bool t.a1.v, .string t.a1.name, .bool t.a2.v, .string t.a2.name, .bool t.a3.v, .string t.a3.name].toArray : Value); binOp .eql 42 (.agg [.string s.says, .string s.pred, .int .i64 s.n, .bool s.a0.v, .string s.a0.name, .bool s.a1.v, .string s.a1.name, .bool s.a2.v, .string s.a2.name, .bool s.a3.v, .string s.a3.name].toArray : Value) (.agg [.string t.says, .string t.pred, .int .i64 t.n, .bool t.a0.v, .string t.a0.name, .bool t.a1.v, .string t.a1.name, .bool t.a2.v, .string t.a2.name, .bool t.a3.v, .string t.a3.name].toArray : Value)) = some (.bool (decide (s = t))) := bin_eqA x y s t
/-! ### sets of atoms -/
def atEs (D : List Atm) : List (Value × Value) := setEs (fun a : Atm => Value.agg a.cells) (.agg #[]) D
theorem check_at (em : Bool) (a : Atm) : pureVal Tryd.prog (Instr.checkKey em 10000 42 (.agg a.cells)) = some () := by
  obtain ⟨s, p, n, ⟨v0, n0⟩, ⟨v1, n1⟩, ⟨v2, n2⟩, ⟨v3, n3⟩⟩ := a
  kernel_rfl
theorem look_at (D : List Atm) (a : Atm) (em : Bool) : mLook Tryd.prog 42 (atEs D) (.agg a.cells) em = some (findE (D.map fun x => (x, Value.agg #[])) a 0) :=
  mLook_enc (P := Tryd.prog) (enc := fun a : Atm => Value.agg a.cells) Tryd.underlying42 (fun _ _ => rfl) check_at (fun x y => pv_eq_at (d := 9996) x y) _ a em
theorem atEs_len (D : List Atm) : (atEs D).length = D.length := by simp [atEs, setEs, encE]
theorem at_none {D : List Atm} {a : Atm} (h : a ∉ D) (em : Bool) : mLook Tryd.prog 42 (atEs D) (.agg [.string a.says, .string a.pred, .int .i64 a.n, .bool a.a0.v, .string a.a0.name, .bool a.a1.v, .string a.a1.name, .bool a.a2.v, .string a.a2.name, .bool a.a3.v, .string a.a3.name].toArray : Value) em = some none := by
  show mLook Tryd.prog 42 (atEs D) (.agg a.cells) em = _
  rw [look_at, findE_none (by rw [setEs_keys]; exact h)]
theorem at_some {D : List Atm} {a : Atm} (h : a ∈ D) (em : Bool) : ∃ k, mLook Tryd.prog 42 (atEs D) (.agg [.string a.says, .string a.pred, .int .i64 a.n, .bool a.a0.v, .string a.a0.name, .bool a.a1.v, .string a.a1.name, .bool a.a2.v, .string a.a2.name, .bool a.a3.v, .string a.a3.name].toArray : Value) em = some (some (k, .agg #[])) := by
  obtain ⟨k, v, h1, h2, h3, h4⟩ := findE_some (es := D.map fun x => (x, Value.agg #[])) (i := 0) (x := a) (by rw [setEs_keys]; exact h)
  refine ⟨0 + k, ?_⟩
  show mLook Tryd.prog 42 (atEs D) (.agg a.cells) em = _
  rw [look_at, h4]
  rw [List.getElem?_map, Option.map_eq_some_iff] at h2
  obtain ⟨p, h5, h6⟩ := h2
  injection h6 with h6 h7
  rw [h7]
theorem at_put {D : List Atm} {a : Atm} (h : a ∉ D) : mPut Tryd.prog 42 (atEs D) (.agg [.string a.says, .string a.pred, .int .i64 a.n, .bool a.a0.v, .string a.a0.name, .bool a.a1.v, .string a.a1.name, .bool a.a2.v, .string a.a2.name, .bool a.a3.v, .string a.a3.name].toArray : Value) (.agg #[]) = some (atEs (D ++ [a])) := by
  unfold mPut
  rw [at_none h]
  simp [atEs, setEs, encE, Atm.cells]
theorem avU : avOf1 (.agg #[]) = some (.agg []) := rfl
/-! ### firsts -/
def pdStep (acc : List Atm) (x : Atm) : List Atm := if pcanon x ∈ acc then acc else acc ++ [pcanon x]
def pdist (l : List Atm) : List Atm := l.foldl pdStep []
theorem pdist_next {l : List Atm} {k : Nat} (h : k < l.length) : pdist (l.take (k + 1)) = pdStep (pdist (l.take k)) l[k] := by
  unfold pdist
  rw [List.take_succ_eq_append_getElem h, List.foldl_append]
  rfl
theorem pdist_len : ∀ (l : List Atm) (acc : List Atm), (l.foldl pdStep acc).length ≤ acc.length + l.length
  | [], acc => by simp
  | x :: l, acc => by
    have := pdist_len l (pdStep acc x)
    have h2 : (pdStep acc x).length ≤ acc.length + 1 := by
      unfold pdStep
      split <;> simp
    rw [List.foldl_cons, List.length_cons]
    omega
theorem pdist_le (l : List Atm) : (pdist l).length ≤ l.length := by
  have := pdist_len l []
  simpa [pdist] using this
end Go.Proofs.YtaeehadibckcjaaDoor

/-
  Chapter 7: canonical atoms, first ones of a list: what holds of them. No program in sight.
-/
namespace Go.Proofs.YtaeehadibckcjaaDoor
open Go.Vs Go.Vs.Ab
set_option maxRecDepth 100000
def rt (f : ByteArray → ByteArray) (t : Tm) : Tm := if t.v then ⟨true, f t.name⟩ else t
def aren (f : ByteArray → ByteArray) (a : Atm) : Atm := a.upto (rt f) a.count
theorem rt_v (f : ByteArray → ByteArray) (t : Tm) : (rt f t).v = t.v := by
  unfold rt
  split
  · rename_i h; rw [h]
  · rfl
theorem aren_count (f : ByteArray → ByteArray) (a : Atm) : (aren f a).count = a.count := rfl
theorem aren_arg {f : ByteArray → ByteArray} {a : Atm} {k : Nat} (h : k < a.count) : (aren f a).arg k = rt f (a.arg k) := by
  have h4 := a.count_le
  unfold aren
  rw [upto_arg _ _ _ (by omega), if_pos h]
theorem aren_rest {f : ByteArray → ByteArray} {a : Atm} {k : Nat} (h : a.count ≤ k) (hk : k < 4) : (aren f a).arg k = a.arg k := by
  unfold aren
  rw [upto_arg _ _ _ hk, if_neg (by omega)]
theorem name_mem {a : Atm} {k : Nat} (h : k < a.count) (hv : (a.arg k).v = true) : (a.arg k).name ∈ pnames a true := (mem_pnamesK a.count_le).2 ⟨k, h, hv, rfl⟩
theorem mem_pre {a : Atm} {k : Nat} {x : ByteArray} (hk : k ≤ a.count) (h : x ∈ pnamesK a true k) : x ∈ pnames a true := by
  obtain ⟨i, h1, h2, h3⟩ := mem_pnames h
  exact (mem_pnamesK a.count_le).2 ⟨i, by omega, h2, h3⟩
theorem ren_names {f : ByteArray → ByteArray} {a : Atm} (hinj : ∀ x ∈ pnames a true, ∀ y ∈ pnames a true, f x = f y → x = y) : ∀ {k : Nat}, k ≤ a.count → pnamesK (aren f a) true k = (pnamesK a true k).map f
  | 0, _ => rfl
  | k + 1, hk => by
    have h4 := a.count_le
    have ih := ren_names hinj (k := k) (by omega)
    have ha := aren_arg (f := f) (a := a) (k := k) (by omega)
    cases hv : (a.arg k).v with
    | false => rw [pnamesK_const (by rw [ha, rt_v]; exact hv), pnamesK_const hv, ih]
    | true =>
      have hv2 : ((aren f a).arg k).v = true := by rw [ha, rt_v]; exact hv
      have hn : ((aren f a).arg k).name = f (a.arg k).name := by rw [ha, rt, if_pos hv]
      by_cases hm : (a.arg k).name ∈ pnamesK a true k
      · rw [pnamesK_old (by omega) hv hm, pnamesK_old (by omega) hv2 (by rw [hn, ih]; exact List.mem_map_of_mem hm), ih]
      · rw [pnamesK_new (by omega) hv hm, pnamesK_new (by omega) hv2, hn, ih, List.map_append, List.map_singleton]
        rw [hn, ih]
        intro h
        obtain ⟨y, hy, e⟩ := List.mem_map.1 h
        have := hinj y (mem_pre (by omega) hy) _ (name_mem (by omega) hv) e
        exact hm (this ▸ hy)
theorem posOf_map {f : ByteArray → ByteArray} {x : ByteArray} : ∀ {l : List ByteArray}, (∀ y ∈ l, f y = f x → y = x) → x ∈ l → posOf (l.map f) (f x) = posOf l x
  | [], _, h => by simp at h
  | y :: l, hi, h => by
    show posOf (f y :: l.map f) (f x) = _
    unfold posOf
    by_cases e : y = x
    · rw [if_pos e, if_pos (by rw [e])]
    · rw [if_neg e, if_neg (fun e2 => e (hi y (by simp) e2))]
      have : x ∈ l := by
        rcases List.mem_cons.1 h with h | h
        · exact absurd h.symm e
        · exact h
      rw [posOf_map (fun z hz => hi z (by simp [hz])) this]
theorem pcanon_arg {a : Atm} {k : Nat} (h : k < a.count) : (pcanon a).arg k = pct (pnames a true) (a.arg k) := by
  have h4 := a.count_le
  unfold pcanon
  rw [upto_arg _ _ _ (by omega), if_pos h]
theorem pcanon_rest {a : Atm} {k : Nat} (h : a.count ≤ k) (hk : k < 4) : (pcanon a).arg k = a.arg k := by
  unfold pcanon
  rw [upto_arg _ _ _ hk, if_neg (by omega)]
theorem pcanon_count (a : Atm) : (pcanon a).count = a.count := rfl
theorem canon_ren {f : ByteArray → ByteArray} {a : Atm} (hinj : ∀ x ∈ pnames a true, ∀ y ∈ pnames a true, f x = f y → x = y) : pcanon (aren f a) = pcanon a := by
  refine atm_ext rfl rfl rfl fun i hi => ?_
  by_cases h : i < a.count
  · rw [pcanon_arg (a := aren f a) h, pcanon_arg h, aren_arg h]
    have hV : pnames (aren f a) true = (pnames a true).map f := ren_names hinj (Nat.le_refl _)
    rw [hV]
    unfold pct
    rw [rt_v]
    cases hv : (a.arg i).v with
    | false => rw [rt, hv]; rfl
    | true =>
      rw [if_pos rfl, if_pos rfl, rt, if_pos hv]
      have hm := name_mem h hv
      rw [posOf_map (fun y hy e => hinj y hy _ hm e) hm]
  · rw [pcanon_rest (a := aren f a) (Nat.le_of_not_lt h) hi, pcanon_rest (Nat.le_of_not_lt h) hi, aren_rest (Nat.le_of_not_lt h) hi]
theorem vname_inj {m n : Nat} (hm : m < 4) (hn : n < 4) (h : vname m = vname n) : m = n := by
  obtain rfl | rfl | rfl | rfl : m = 0 ∨ m = 1 ∨ m = 2 ∨ m = 3 := by omega
  all_goals
    obtain rfl | rfl | rfl | rfl : n = 0 ∨ n = 1 ∨ n = 2 ∨ n = 3 := by omega
    all_goals first | rfl | (exfalso; revert h; decide)
theorem posOf_inj {x y : ByteArray} {l : List ByteArray} (hx : x ∈ l) (hy : y ∈ l) (h : posOf l x = posOf l y) : x = y := by
  have h1 := posOf_get hx
  have h2 := posOf_get hy
  rw [h, h2] at h1
  exact (Option.some.inj h1).symm
theorem pvars_len (a : Atm) : (pnames a true).length ≤ 4 := Nat.le_trans (pnamesK_len a a.count) a.count_le
theorem canon_is_ren (a : Atm) : pcanon a = aren (fun x => vname (posOf (pnames a true) x)) a := rfl
theorem canon_inj (a : Atm) : ∀ x ∈ pnames a true, ∀ y ∈ pnames a true, vname (posOf (pnames a true) x) = vname (posOf (pnames a true) y) → x = y := fun x hx y hy e => by
  have h1 := posOf_lt hx
  have h2 := posOf_lt hy
  have h3 := pvars_len a
  exact posOf_inj hx hy (vname_inj (by omega) (by omega) e)
theorem pcanon_idem (a : Atm) : pcanon (pcanon a) = pcanon a := by
  rw [canon_is_ren a, canon_ren (canon_inj a), canon_is_ren a]
/-! ### first ones -/
theorem pdStep_pre (acc : List Atm) (x : Atm) : ∃ r, pdStep acc x = acc ++ r := by
  unfold pdStep
  split
  · exact ⟨[], by simp⟩
  · exact ⟨[pcanon x], rfl⟩
theorem pd_pre : ∀ (l : List Atm) (acc : List Atm), ∃ r, l.foldl pdStep acc = acc ++ r
  | [], acc => ⟨[], by simp⟩
  | x :: l, acc => by
    obtain ⟨r, h1⟩ := pdStep_pre acc x
    obtain ⟨s, h2⟩ := pd_pre l (pdStep acc x)
    exact ⟨r ++ s, by rw [List.foldl_cons, h2, h1, List.append_assoc]⟩
theorem pdist_pre (l : List Atm) (k : Nat) : ∃ r, pdist l = pdist (l.take k) ++ r := by
  obtain ⟨r, h⟩ := pd_pre (l.drop k) (pdist (l.take k))
  refine ⟨r, ?_⟩
  rw [← h]
  unfold pdist
  rw [← List.foldl_append, List.take_append_drop]
theorem pd_good : ∀ (l : List Atm) (acc : List Atm), acc.Nodup → (∀ x ∈ acc, pcanon x = x) → (l.foldl pdStep acc).Nodup ∧ ∀ x ∈ l.foldl pdStep acc, pcanon x = x
  | [], acc, h1, h2 => ⟨h1, h2⟩
  | x :: l, acc, h1, h2 => by
    rw [List.foldl_cons]
    refine pd_good l (pdStep acc x) ?_ ?_
    · unfold pdStep
      split
      · exact h1
      · rename_i hm
        rw [List.nodup_append]
        refine ⟨h1, by simp, fun u hu v hv => ?_⟩
        rw [List.mem_singleton] at hv
        subst hv
        rintro rfl
        exact hm hu
    · unfold pdStep
      split
      · exact h2
      · intro u hu
        rcases List.mem_append.1 hu with hu | hu
        · exact h2 u hu
        · rw [List.mem_singleton] at hu
          rw [hu, pcanon_idem]
theorem pdist_nodup (l : List Atm) : (pdist l).Nodup := (pd_good l [] List.nodup_nil (fun x h => by simp at h)).1
theorem pdist_canon {l : List Atm} {x : Atm} (h : x ∈ pdist l) : pcanon x = x := (pd_good l [] List.nodup_nil (fun x h => by simp at h)).2 x h
theorem pd_id : ∀ (l : List Atm) (acc : List Atm), (acc ++ l).Nodup → (∀ x ∈ l, pcanon x = x) → l.foldl pdStep acc = acc ++ l
  | [], acc, _, _ => by simp
  | x :: l, acc, h1, h2 => by
    have e := h2 x (by simp)
    have hn : pcanon x ∉ acc := by
      rw [e]
      intro hx
      rw [List.nodup_append] at h1
      exact h1.2.2 x hx x (by simp) rfl
    rw [List.foldl_cons, pdStep, if_neg hn, e]
    rw [pd_id l (acc ++ [x]) (by rw [List.append_assoc]; exact h1) (fun y hy => h2 y (by simp [hy]))]
    simp
theorem pdist_again (l : List Atm) : pdist (pdist l) = pdist l := by
  have := pd_id (pdist l) [] (by simpa using pdist_nodup l) (fun x hx => pdist_canon hx)
  simpa [pdist] using this
theorem pdist_mem {l : List Atm} {k : Nat} (h : k < l.length) : pcanon l[k] ∈ pdist (l.take (k + 1)) := by
  rw [pdist_next h, pdStep]
  split
  · assumption
  · simp
theorem pdist_at {l : List Atm} {k : Nat} (h : k < l.length) : ∃ j, j ≤ (pdist (l.take k)).length ∧ (pdist l)[j]? = some (pcanon l[k]) ∧ (pdist (l.take (k + 1))).length = (if j = (pdist (l.take k)).length then (pdist (l.take k)).length + 1 else (pdist (l.take k)).length) := by
  have hnx := pdist_next h
  unfold pdStep at hnx
  split at hnx
  · rename_i hm
    obtain ⟨j, hj, e⟩ := List.mem_iff_getElem.1 hm
    obtain ⟨r, hr⟩ := pdist_pre l k
    refine ⟨j, Nat.le_of_lt hj, ?_, ?_⟩
    · rw [hr, List.getElem?_append_left hj, List.getElem?_eq_getElem hj, e]
    · rw [hnx, if_neg (by omega)]
  · rename_i hm
    obtain ⟨r, hr⟩ := pdist_pre l (k + 1)
    refine ⟨(pdist (l.take k)).length, Nat.le_refl _, ?_, ?_⟩
    · rw [hr, hnx]
      simp
    · rw [hnx, if_pos rfl]
      simp
end Go.Proofs.YtaeehadibckcjaaDoor

/-
  Contracts of library functions at this program, as the kit's shelf lays them.
-/
namespace Go.Proofs
open Go.Shelf
def Tryd.lays156_ren : Go.Shelf.Ren := ⟨fun | 156 => 52 | 165 => 72 | 166 => 69 | 169 => 38 | 240 => 83 | 241 => 85 | 276 => 94 | 277 => 95 | n => n, fun | 31 => 23 | 9 => 9 | 3 => 3 | 4 => 4 | 0 => 0 | 20 => 20 | 72 => 79 | 76 => 109 | 70 => 76 | 37 => 77 | 75 => 108 | 127 => 104 | 164 => 131 | 5 => 5 | 80 => 83 | n => n, fun | n => n⟩
theorem Tryd.lays156 : Go.Proofs.Lays.n156 Tryd.prog Tryd.lays156_ren := {
  mixed := by kernel_rfl
  f156 := Tryd.func52.trans (congrArg some (by kernel_rfl))
  f165 := Tryd.func72.trans (congrArg some (by kernel_rfl))
  f166 := Tryd.func69.trans (congrArg some (by kernel_rfl))
  f169 := Tryd.func38.trans (congrArg some (by kernel_rfl))
  f240 := Tryd.func83.trans (congrArg some (by kernel_rfl))
  f241 := Tryd.func85.trans (congrArg some (by kernel_rfl))
  f276 := Tryd.func94.trans (congrArg some (by kernel_rfl))
  f277 := Tryd.func95.trans (congrArg some (by kernel_rfl))
  t0 := Tryd.underlying0
  a0 := Tryd.isAgg0
  z0 := Tryd.sizeOf0
  v0 := Tryd.zeroValue0
  t3 := Tryd.underlying3
  a3 := Tryd.isAgg3
  z3 := Tryd.sizeOf3
  v3 := Tryd.zeroValue3
  t4 := Tryd.underlying4
  a4 := Tryd.isAgg4
  z4 := Tryd.sizeOf4
  v4 := Tryd.zeroValue4
  t9 := Tryd.underlying9
  a9 := Tryd.isAgg9
  z9 := Tryd.sizeOf9
  v9 := Tryd.zeroValue9
  t20 := Tryd.underlying20
  a20 := Tryd.isAgg20
  z20 := Tryd.sizeOf20
  v20 := Tryd.zeroValue20
  t31 := Tryd.underlying23
  a31 := Tryd.isAgg23
  z31 := Tryd.sizeOf23
  v31 := Tryd.zeroValue23
  t37 := Tryd.underlying77
  a37 := Tryd.isAgg77
  z37 := Tryd.sizeOf77
  v37 := Tryd.zeroValue77
  t70 := Tryd.underlying76
  a70 := Tryd.isAgg76
  z70 := Tryd.sizeOf76
  v70 := Tryd.zeroValue76
  t72 := Tryd.underlying79
  a72 := Tryd.isAgg79
  z72 := Tryd.sizeOf79
  v72 := Tryd.zeroValue79
  t75 := Tryd.underlying108
  a75 := Tryd.isAgg108
  z75 := Tryd.sizeOf108
  v75 := Tryd.zeroValue108
  t76 := Tryd.underlying109
  a76 := Tryd.isAgg109
  z76 := Tryd.sizeOf109
  v76 := Tryd.zeroValue109
  t127 := Tryd.underlying104
  a127 := Tryd.isAgg104
  z127 := Tryd.sizeOf104
  v127 := Tryd.zeroValue104
  t164 := Tryd.underlying131
  a164 := Tryd.isAgg131
  z164 := Tryd.sizeOf131
  v164 := Tryd.zeroValue131 }
theorem Tryd.Builder_Extra_156 : Builder.Extra Tryd.prog Tryd.lays156_ren := {
  sizeBuilder := by kernel_rfl
  liesBuilder := by kernel_rfl
  t5 := Tryd.underlying5
  a5 := Tryd.isAgg5
  z5 := Tryd.sizeOf5
  v5 := Tryd.zeroValue5
  infoByte := by kernel_rfl
  cellsByte := by kernel_rfl
  sizeByte := by kernel_rfl
  neB5 := by decide }
open Go.RowKit in
theorem Tryd.strings_Join_none (a : Option Addr) (c : Nat) (sep : ByteArray) (w : World) :
    Calls Tryd.prog 52 #[.slice a 0 c, .string sep] w fun e w' => e = .returned (.string ⟨#[]⟩) ∧ w' = w := Any.strings_Join_none Tryd.lays156 Tryd.Builder_Extra_156 a c sep w
open Go.RowKit in
theorem Tryd.strings_Join (bk o c : Nat) (xs : List ByteArray) (sep : ByteArray) (w : World) (hcells : ∀ (j : Nat) x, xs[j]? = some x → w.cell? ⟨bk, o + j, none⟩ = some (.string x)) (hbk : bk < w.heap.size) (hN : xs.length ≤ 140737488355328) (hcap : xs.length ≤ c) (hlen : (Lib.join (xs.map (·.data.toList)) sep.data.toList).length ≤ 140737488355328) :
    Calls Tryd.prog 52 #[.slice (some ⟨bk, o, none⟩) xs.length c, .string sep] w fun e w' => e = .returned (.string ⟨(Lib.join (xs.map (·.data.toList)) sep.data.toList).toArray⟩) ∧ Below w.heap.size w w' := Any.strings_Join Tryd.lays156 Tryd.Builder_Extra_156 bk o c xs sep w hcells hbk hN hcap hlen
def Tryd.laysM171_ren : Go.Shelf.Ren := ⟨fun | 171 => 37 | 243 => 65 | 246 => 80 | 283 => 89 | 284 => 90 | 285 => 91 | 286 => 92 | 129 => 97 | 317 => 96 | 318 => 98 | 319 => 99 | 320 => 100 | 337 => 101 | 338 => 102 | n => n, fun | 3 => 3 | 9 => 9 | 2 => 2 | 4 => 4 | 171 => 125 | 0 => 0 | 53 => 116 | 37 => 77 | 5 => 5 | 173 => 128 | 212 => 136 | 51 => 137 | 20 => 20 | 213 => 138 | 46 => 140 | 232 => 143 | 233 => 144 | n => n, fun | 17 => 0 | 18 => 2 | 19 => 3 | n => n⟩
theorem Tryd.laysM171 : Go.Proofs.LaysM.n171 Tryd.prog Tryd.laysM171_ren := {
  mixed := by kernel_rfl
  f129 := Tryd.func97.trans (congrArg some (by kernel_rfl))
  f171 := Tryd.func37.trans (congrArg some (by kernel_rfl))
  f243 := Tryd.func65.trans (congrArg some (by kernel_rfl))
  f246 := Tryd.func80.trans (congrArg some (by kernel_rfl))
  f283 := Tryd.func89.trans (congrArg some (by kernel_rfl))
  f284 := Tryd.func90.trans (congrArg some (by kernel_rfl))
  f285 := Tryd.func91.trans (congrArg some (by kernel_rfl))
  f286 := Tryd.func92.trans (congrArg some (by kernel_rfl))
  f317 := Tryd.func96.trans (congrArg some (by kernel_rfl))
  f318 := Tryd.func98.trans (congrArg some (by kernel_rfl))
  f319 := Tryd.func99.trans (congrArg some (by kernel_rfl))
  f320 := Tryd.func100.trans (congrArg some (by kernel_rfl))
  f337 := Tryd.func101.trans (congrArg some (by kernel_rfl))
  f338 := Tryd.func102.trans (congrArg some (by kernel_rfl))
  t0 := Tryd.underlying0
  a0 := Tryd.isAgg0
  z0 := Tryd.sizeOf0
  v0 := Tryd.zeroValue0
  t2 := Tryd.underlying2
  a2 := Tryd.isAgg2
  z2 := Tryd.sizeOf2
  v2 := Tryd.zeroValue2
  t3 := Tryd.underlying3
  a3 := Tryd.isAgg3
  z3 := Tryd.sizeOf3
  v3 := Tryd.zeroValue3
  t4 := Tryd.underlying4
  a4 := Tryd.isAgg4
  z4 := Tryd.sizeOf4
  v4 := Tryd.zeroValue4
  t5 := Tryd.underlying5
  a5 := Tryd.isAgg5
  z5 := Tryd.sizeOf5
  v5 := Tryd.zeroValue5
  t9 := Tryd.underlying9
  a9 := Tryd.isAgg9
  z9 := Tryd.sizeOf9
  v9 := Tryd.zeroValue9
  t20 := Tryd.underlying20
  a20 := Tryd.isAgg20
  z20 := Tryd.sizeOf20
  v20 := Tryd.zeroValue20
  t37 := Tryd.underlying77
  a37 := Tryd.isAgg77
  z37 := Tryd.sizeOf77
  v37 := Tryd.zeroValue77
  t46 := Tryd.underlying140
  a46 := Tryd.isAgg140
  z46 := Tryd.sizeOf140
  v46 := Tryd.zeroValue140
  t51 := Tryd.underlying137
  a51 := Tryd.isAgg137
  z51 := Tryd.sizeOf137
  v51 := Tryd.zeroValue137
  t53 := Tryd.underlying116
  a53 := Tryd.isAgg116
  z53 := Tryd.sizeOf116
  v53 := Tryd.zeroValue116
  t171 := Tryd.underlying125
  a171 := Tryd.isAgg125
  z171 := Tryd.sizeOf125
  v171 := Tryd.zeroValue125
  t173 := Tryd.underlying128
  a173 := Tryd.isAgg128
  z173 := Tryd.sizeOf128
  v173 := Tryd.zeroValue128
  t212 := Tryd.underlying136
  a212 := Tryd.isAgg136
  z212 := Tryd.sizeOf136
  v212 := Tryd.zeroValue136
  t213 := Tryd.underlying138
  a213 := Tryd.isAgg138
  z213 := Tryd.sizeOf138
  t232 := Tryd.underlying143
  a232 := Tryd.isAgg143
  z232 := Tryd.sizeOf143
  v232 := Tryd.zeroValue143
  t233 := Tryd.underlying144
  a233 := Tryd.isAgg144
  z233 := Tryd.sizeOf144
  v233 := Tryd.zeroValue144
  g17 := by kernel_rfl
  g18 := by kernel_rfl
  g19 := by kernel_rfl
  i0 := by kernel_rfl
  i2 := by kernel_rfl
  i3 := by kernel_rfl
  i4 := by kernel_rfl
  i5 := by kernel_rfl
  i9 := by kernel_rfl
  i20 := by kernel_rfl
  i37 := by kernel_rfl
  i46 := by kernel_rfl
  i51 := by kernel_rfl
  i53 := by kernel_rfl
  i171 := by kernel_rfl
  i173 := by kernel_rfl
  i212 := by kernel_rfl
  i232 := by kernel_rfl
  i233 := by kernel_rfl
  m17 := by kernel_rfl
  m18 := by kernel_rfl
  m19 := by kernel_rfl }
open Go.RowKit Go.Sort Go.Lib in
theorem Tryd.strconv_Itoa (n : Int) (h0 : -9223372036854775808 ≤ n) (h1 : n ≤ 9223372036854775807) (w : World) (htab : Lib.TabIs Tryd.prog w "internal/strconv.uint64pow10" .u64 Lib.pow10Tab) :
    Calls Tryd.prog 37 #[.int .i64 n] w fun e w' => e = .returned (.string ⟨(Lib.itoa n).toArray⟩) ∧ ∃ k os, w' = grow (w.drewN k) os := Any.strconv_Itoa Tryd.laysM171 n h0 h1 w htab
end Go.Proofs

/-
  Chapter 7: contracts on abstract values: texts of atoms.
-/
namespace Go.Proofs.YtaeehadibckcjaaDoor
open Go.Vs Go.Vs.Ab Go.RowKit
set_option maxRecDepth 100000
set_option maxHeartbeats 4000000
def joinB (l : List ByteArray) (sep : ByteArray) : ByteArray := ⟨(Lib.join (l.map (·.data.toList)) sep.data.toList).toArray⟩
theorem join_does (l : List ByteArray) (sep : ByteArray) (ex : Bool) (h1 : l.length ≤ 1000000) (h2 : (joinB l sep).size ≤ 140737488355328) : Does Tryd.prog 52 [slS ex l, sA sep] (fun m => (sA (joinB l sep), m)) :=
  does_of_calls (v := .string (joinB l sep)) (callable Tryd.func52 (by kernel_rfl)) rfl fun X w vs hc hr => by
    obtain ⟨v, u, hv, r1, r2⟩ := reps2 hr
    obtain rfl : vs = #[v, u] := by
      apply Array.ext'
      simpa using hv
    obtain rfl : u = .string sep := val_rep rfl r2
    obtain ⟨a, cap, xs, rfl, g1, g2, g3, g4⟩ := slV_rep (len_R stC ex l) r1
    have hxs := vals_rep (vals_flat (encV := fun s => [Value.string s]) vals_st l) g1
    rw [flat_st] at hxs
    subst hxs
    by_cases hl : l = []
    · subst hl
      refine (Tryd.strings_Join_none a cap sep w).mono ?_
      rintro e w' ⟨rfl, rfl⟩
      exact ⟨rfl, Below.refl _ _⟩
    · have hpos : 0 < (l.map Value.string).length := by rw [List.length_map]; exact List.length_pos_iff.2 hl
      obtain ⟨b, o, rfl⟩ := g4.some hpos
      have hcell : ∀ (j : Nat) x, l[j]? = some x → w.cell? ⟨b, o + j, none⟩ = some (.string x) := fun j x hx => by
        obtain ⟨b', o', e, h⟩ := g4 j (.string x) (by rw [List.getElem?_map, hx]; rfl)
        injection e with e
        injection e with e1 e2
        subst e1 e2
        exact hc _ _ _ h
      have hb : b < w.heap.size := by
        obtain ⟨x, hx⟩ := List.exists_mem_of_ne_nil l hl
        obtain ⟨j, hj, rfl⟩ := List.mem_iff_getElem.1 hx
        exact World.block_lt_of_cell? w _ (hcell j l[j] (by simp [hj]))
      refine Tryd.strings_Join b o cap l sep w hcell hb (by omega) g2 ?_
      simpa [joinB, ByteArray.size] using h2
/-! ### the text of an atom -/
abbrev tSays : ByteArray := ⟨#[32, 115, 97, 121, 115, 32]⟩
abbrev tOpen : ByteArray := ⟨#[40]⟩
abbrev tComma : ByteArray := ⟨#[44, 32]⟩
abbrev tShut : ByteArray := ⟨#[41]⟩
def psaidK (a : Atm) : Nat → ByteArray
  | 0 => a.pred
  | k + 1 => (psaidK a k ++ (if k = 0 then tOpen else tComma)) ++ (a.arg k).name
def psaid (a : Atm) : ByteArray := if 0 < a.count then psaidK a a.count ++ tShut else a.pred
def ptext (a : Atm) : ByteArray := (a.says ++ tSays) ++ psaid a
def anames (a : Atm) (k : Nat) : List ByteArray := (List.range k).map fun i => (a.arg i).name
theorem anames_next (a : Atm) (k : Nat) : anames a (k + 1) = anames a k ++ [(a.arg k).name] := by
  unfold anames
  rw [List.range_succ, List.map_append]
  rfl
theorem ba_ext {a b : ByteArray} (h : a.data.toList = b.data.toList) : a = b := str_inj h
theorem join_snoc (l : List ByteArray) (sep x : ByteArray) (hl : l ≠ []) : joinB (l ++ [x]) sep = (joinB l sep ++ sep) ++ x := by
  apply ba_ext
  simp only [ByteArray.data_append, Array.toList_append, joinB, Lib.join, List.map_append, List.map_cons, List.map_nil]
  generalize sep.data.toList = s
  generalize x.data.toList = y
  have : ∀ l : List (List UInt8), l ≠ [] → s.intercalate (l ++ [y]) = s.intercalate l ++ s ++ y := fun l => by
    induction l with
    | nil => intro h; exact absurd rfl h
    | cons z r ih =>
      intro _
      cases r with
      | nil => simp [List.intercalate]
      | cons u r =>
        have := ih (by simp)
        simp only [List.intercalate, List.cons_append, List.intersperse_cons_cons, List.flatten_cons, List.append_assoc] at this ⊢
        rw [this]
  exact this _ (by simpa using hl)
theorem psaid_join (a : Atm) : ∀ k, 0 < k → psaidK a k = (a.pred ++ tOpen) ++ joinB (anames a k) tComma
  | 0, h => absurd h (Nat.lt_irrefl _)
  | 1, _ => by
    apply ba_ext
    simp [psaidK, joinB, anames, Lib.join_one, List.range, List.range.loop]
  | k + 2, _ => by
    have ih := psaid_join a (k + 1) (by omega)
    show (psaidK a (k + 1) ++ tComma) ++ (a.arg (k + 1)).name = _
    rw [ih, anames_next a (k + 1), join_snoc _ _ _ (by simp [anames])]
    simp only [ByteArray.append_assoc]
theorem ptext_join (a : Atm) (h : 0 < a.count) : ptext a = (((a.says ++ tSays) ++ a.pred) ++ tOpen) ++ joinB (anames a a.count) tComma ++ tShut := by
  unfold ptext psaid
  rw [if_pos h, psaid_join a _ h]
  simp only [ByteArray.append_assoc]
def AtSz (a : Atm) : Prop := a.says.size ≤ 1000000 ∧ a.pred.size ≤ 1000000 ∧ ∀ k, (a.arg k).name.size ≤ 1000000
theorem psaidK_size {a : Atm} (h : AtSz a) : ∀ k, (psaidK a k).size ≤ 1000000 + k * 1000002
  | 0 => by have := h.2.1; simpa [psaidK] using this
  | k + 1 => by
    have ih := psaidK_size h k
    have h3 := h.2.2 k
    have h4 : (if k = 0 then tOpen else tComma).size ≤ 2 := by split <;> decide
    simp only [psaidK, ByteArray.size_append]
    omega
theorem joinB_size {a : Atm} (h : AtSz a) {k : Nat} (hk : k ≤ 4) : (joinB (anames a k) tComma).size ≤ 6000000 := by
  cases k with
  | zero => exact (by decide : (0 : Nat) ≤ 6000000)
  | succ k =>
    have h1 := psaid_join a (k + 1) (by omega)
    have h2 := psaidK_size h (k + 1)
    rw [h1] at h2
    simp only [ByteArray.size_append] at h2
    have : (k + 1) * 1000002 ≤ 4 * 1000002 := Nat.mul_le_mul_right _ hk
    omega
theorem sadd {a b : ByteArray} {n : Nat} (h : a.size + b.size ≤ n) (hn : n ≤ 9223372036854775807) : pureVal Tryd.prog (Op.stringOp .add a b) = some (.string (a ++ b)) := so_add (Nat.le_trans h hn)
theorem idxM' {ex : Bool} {l : List Tm} {k : Nat} (h : k < l.length) : aIndexAddr Tryd.prog 111 (slM ex l) (.c (.v (.int .i64 (k : Int)))) = some (.cptr (tmC l[k] ++ (l.drop (k + 1)).flatMap tmC)) := idxM h
theorem build1T (x : ByteArray) : aBuildSlice Tryd.prog 23 1 [(0, .c (.v (.string x)))] = some [.v (.string x)] := build1 Tryd.underlying23 sz9 ze9 (by decide) (by decide) (by decide) rfl rfl
theorem appS (hp : List Blk) (l : List ByteArray) (x : ByteArray) (hl : l.length ≤ 1000000) : aAppend Tryd.prog ⟨hp, colH 9 1 l⟩ 23 (colA stC 0 l) (.c (.sl true 1 [.v (.string x)])) = some (colA stC 0 (l ++ [x]), ⟨hp, colH 9 1 (l ++ [x])⟩) :=
  app_col0 (P := Tryd.prog) stC (size := 1) (fun _ => rfl) Tryd.underlying23 info_s (hp := hp) (l := l) (x := x) (ex := true) (Nat.le_trans (show _ ≤ 1000001 by omega) (by decide)) (by omega)
theorem text_does (a : Atm) (hS : AtSz a) : Does Tryd.prog 48 [atA a] (fun m => (sA (ptext a), m)) := by
  have h4 := a.count_le
  have ca := args_does a
  have hlen : (a.args.take a.count).length = a.count := args_len a h4
  have e1 := sadd (a := a.says) (b := tSays) (n := 2000000) (by have := hS.1; have : tSays.size = 6 := rfl; omega) (by decide)
  have e2 := sadd (a := a.says ++ tSays) (b := a.pred) (n := 3000000) (by have := hS.1; have := hS.2.1; have : tSays.size = 6 := rfl; rw [ByteArray.size_append]; omega) (by decide)
  by_cases h0 : a.count = 0
  · have hz : decide (((a.args.take a.count).length : Int) = 0) = true := decide_eq_true (by omega)
    have hT : ptext a = (a.says ++ tSays) ++ a.pred := by unfold ptext psaid; rw [if_neg (by omega)]
    refine does_of' Tryd.func48 rfl (by kernel_rfl) rfl Tryd.ntmps48 rfl rfl fun Q hQ => ?_
    repeat (first
        | refine tr_seq_k fun _ _ => ?_
        | (refine tr_region ?_; simp only [go_sem, List.getElem?_toArray, str_beq, reduceCtorEq, Nat.reduceEqDiff, Nat.reduceLT, Nat.reduceLeDiff, Nat.reduceAdd, Nat.reduceMul, Nat.reduceSub, Nat.reduceBEq, ↓reduceIte, bne_self_eq_false, Bool.and_false, Bool.false_and, Bool.true_or, Bool.false_or, e1, e2, hz])
        | (refine call_of (ca) ?_ ?_
           · first | rfl | simp only [go_sem, List.getElem?_toArray, str_beq, reduceCtorEq, Nat.reduceEqDiff, Nat.reduceLT, Nat.reduceLeDiff, Nat.reduceAdd, Nat.reduceMul, Nat.reduceSub, Nat.reduceBEq, ↓reduceIte, bne_self_eq_false, Bool.and_false, Bool.false_and, Bool.true_or, Bool.false_or, e1, e2, hz, shut_col]
           simp only [go_sem, List.getElem?_toArray, str_beq, reduceCtorEq, Nat.reduceEqDiff, Nat.reduceLT, Nat.reduceLeDiff, Nat.reduceAdd, Nat.reduceMul, Nat.reduceSub, Nat.reduceBEq, ↓reduceIte, bne_self_eq_false, Bool.and_false, Bool.false_and, Bool.true_or, Bool.false_or, e1, e2, hz])
        | refine k_of (by assumption) ?_
        | refine tr_block ?_
        | refine tr_scope ?_
        | (refine tr_skip ?_; try simp only [ex_seq, ex_block])
        | (refine tr_label ?_; try simp only [ex_seq, ex_block])
        | (refine tr_exit ?_; try simp only [ex_seq_exit, ex_block_exit, Nat.reduceEqDiff, if_true, if_false, ex_seq, ex_block, reduceCtorEq, ↓reduceIte])
        | (refine tr_ret ?_; try simp only [ex_seq_ret, ex_block_ret]))
    refine tr_cond rfl (fun ht => ?_) (fun hf => ?_)
    · repeat (first
          | refine tr_seq_k fun _ _ => ?_
          | (refine tr_region ?_; simp only [go_sem, List.getElem?_toArray, str_beq, reduceCtorEq, Nat.reduceEqDiff, Nat.reduceLT, Nat.reduceLeDiff, Nat.reduceAdd, Nat.reduceMul, Nat.reduceSub, Nat.reduceBEq, ↓reduceIte, bne_self_eq_false, Bool.and_false, Bool.false_and, Bool.true_or, Bool.false_or])
          | refine k_of (by assumption) ?_
          | refine tr_block ?_
          | refine tr_scope ?_
          | (refine tr_skip ?_; try simp only [ex_seq, ex_block])
          | (refine tr_label ?_; try simp only [ex_seq, ex_block])
          | (refine tr_exit ?_; try simp only [ex_seq_exit, ex_block_exit, Nat.reduceEqDiff, if_true, if_false, ex_seq, ex_block, reduceCtorEq, ↓reduceIte])
          | (refine tr_ret ?_; try simp only [ex_seq_ret, ex_block_ret]))
      refine (hQ _ _ [sA ((a.says ++ tSays) ++ a.pred)] ?_ (fun m => by rw [hT]; rfl)).2 <;> simp only [go_sem, List.getElem?_toArray, str_beq, reduceCtorEq, Nat.reduceEqDiff, Nat.reduceLT, Nat.reduceLeDiff, Nat.reduceAdd, Nat.reduceMul, Nat.reduceSub, Nat.reduceBEq, ↓reduceIte, bne_self_eq_false, Bool.and_false, Bool.false_and, Bool.true_or, Bool.false_or, Tryd.f48]
    · cases hf
  · have hz : decide (((a.args.take a.count).length : Int) = 0) = false := decide_eq_false (by omega)
    have hT := ptext_join a (by omega)
    have js := joinB_size hS h4
    have cj := join_does (anames a a.count) tComma (anames a a.count).isEmpty (by simp [anames]; omega) (by omega)
    have e3 := sadd (a := (a.says ++ tSays) ++ a.pred) (b := tOpen) (n := 4000000) (by have := hS.1; have := hS.2.1; have : tSays.size = 6 := rfl; have : tOpen.size = 1 := rfl; simp only [ByteArray.size_append]; omega) (by decide)
    have e4 := sadd (a := ((a.says ++ tSays) ++ a.pred) ++ tOpen) (b := joinB (anames a a.count) tComma) (n := 10000000) (by have := hS.1; have := hS.2.1; have : tSays.size = 6 := rfl; have : tOpen.size = 1 := rfl; simp only [ByteArray.size_append]; omega) (by decide)
    have e5 := sadd (a := (((a.says ++ tSays) ++ a.pred) ++ tOpen) ++ joinB (anames a a.count) tComma) (b := tShut) (n := 11000000) (by have := hS.1; have := hS.2.1; have : tSays.size = 6 := rfl; have : tOpen.size = 1 := rfl; have : tShut.size = 1 := rfl; simp only [ByteArray.size_append]; omega) (by decide)
    refine does_of' Tryd.func48 rfl (by kernel_rfl) rfl Tryd.ntmps48 rfl rfl fun Q hQ => ?_
    repeat (first
        | refine tr_seq_k fun _ _ => ?_
        | (refine tr_region ?_; simp only [go_sem, List.getElem?_toArray, str_beq, reduceCtorEq, Nat.reduceEqDiff, Nat.reduceLT, Nat.reduceLeDiff, Nat.reduceAdd, Nat.reduceMul, Nat.reduceSub, Nat.reduceBEq, ↓reduceIte, bne_self_eq_false, Bool.and_false, Bool.false_and, Bool.true_or, Bool.false_or, e1, e2, hz])
        | (refine call_of (ca) ?_ ?_
           · first | rfl | simp only [go_sem, List.getElem?_toArray, str_beq, reduceCtorEq, Nat.reduceEqDiff, Nat.reduceLT, Nat.reduceLeDiff, Nat.reduceAdd, Nat.reduceMul, Nat.reduceSub, Nat.reduceBEq, ↓reduceIte, bne_self_eq_false, Bool.and_false, Bool.false_and, Bool.true_or, Bool.false_or, e1, e2, hz, shut_col]
           simp only [go_sem, List.getElem?_toArray, str_beq, reduceCtorEq, Nat.reduceEqDiff, Nat.reduceLT, Nat.reduceLeDiff, Nat.reduceAdd, Nat.reduceMul, Nat.reduceSub, Nat.reduceBEq, ↓reduceIte, bne_self_eq_false, Bool.and_false, Bool.false_and, Bool.true_or, Bool.false_or, e1, e2, hz])
        | refine k_of (by assumption) ?_
        | refine tr_block ?_
        | refine tr_scope ?_
        | (refine tr_skip ?_; try simp only [ex_seq, ex_block])
        | (refine tr_label ?_; try simp only [ex_seq, ex_block])
        | (refine tr_exit ?_; try simp only [ex_seq_exit, ex_block_exit, Nat.reduceEqDiff, if_true, if_false, ex_seq, ex_block, reduceCtorEq, ↓reduceIte])
        | (refine tr_ret ?_; try simp only [ex_seq_ret, ex_block_ret]))
    refine tr_cond rfl (fun ht => ?_) (fun hf => ?_)
    · cases ht
    · repeat (first
          | refine tr_seq_k fun _ _ => ?_
          | (refine tr_region ?_; simp only [go_sem, List.getElem?_toArray, str_beq, reduceCtorEq, Nat.reduceEqDiff, Nat.reduceLT, Nat.reduceLeDiff, Nat.reduceAdd, Nat.reduceMul, Nat.reduceSub, Nat.reduceBEq, ↓reduceIte, bne_self_eq_false, Bool.and_false, Bool.false_and, Bool.true_or, Bool.false_or])
          | refine k_of (by assumption) ?_
          | refine tr_block ?_
          | refine tr_scope ?_
          | (refine tr_skip ?_; try simp only [ex_seq, ex_block])
          | (refine tr_label ?_; try simp only [ex_seq, ex_block])
          | (refine tr_exit ?_; try simp only [ex_seq_exit, ex_block_exit, Nat.reduceEqDiff, if_true, if_false, ex_seq, ex_block, reduceCtorEq, ↓reduceIte])
          | (refine tr_ret ?_; try simp only [ex_seq_ret, ex_block_ret]))
      refine tr_loop_k (σ := Nat) (fun k => [(3, sA ((a.says ++ tSays) ++ a.pred)), (5, colA stC 0 (anames a k)), (20, slM (Nat.beq 4 a.count) (a.args.take a.count)), (21, iA ((a.args.take a.count).length : Nat)), (22, iA k)]) (fun k => ⟨[⟨false, (atC a).map .c⟩], colH 9 1 (anames a k)⟩)
        (fun k => k ≤ a.count) (fun k => a.count - k) 0 (Nat.zero_le _) ⟨rfl, rfl, rfl, rfl, rfl, trivial⟩ rfl ?_
      rintro k hk K hK
      repeat (first
          | refine tr_seq_k fun _ _ => ?_
          | (refine tr_region ?_; simp only [go_sem, List.getElem?_toArray, str_beq, reduceCtorEq, Nat.reduceEqDiff, Nat.reduceLT, Nat.reduceLeDiff, Nat.reduceAdd, Nat.reduceMul, Nat.reduceSub, Nat.reduceBEq, ↓reduceIte, bne_self_eq_false, Bool.and_false, Bool.false_and, Bool.true_or, Bool.false_or])
          | refine k_of (by assumption) ?_
          | refine tr_block ?_
          | refine tr_scope ?_
          | (refine tr_skip ?_; try simp only [ex_seq, ex_block])
          | (refine tr_label ?_; try simp only [ex_seq, ex_block])
          | (refine tr_exit ?_; try simp only [ex_seq_exit, ex_block_exit, Nat.reduceEqDiff, if_true, if_false, ex_seq, ex_block, reduceCtorEq, ↓reduceIte])
          | (refine tr_ret ?_; try simp only [ex_seq_ret, ex_block_ret]))
      refine tr_cond rfl (fun ht => ?_) (fun hf => ?_)
      · have hlt : k < a.count := by
          have := of_decide_eq_true ht
          omega
        have ws := wrap_succ (show k ≤ 1000000000 by omega)
        have hla : k < (a.args.take a.count).length := by omega
        have hix := idxM (ex := Nat.beq 4 a.count) hla
        rw [args_get a h4 hla] at hix
        have ap := fun hp => appS hp (anames a k) (a.arg k).name (by simp [anames]; omega)
        rw [← anames_next] at ap
        have b1 := build1T (a.arg k).name
        repeat (first
            | refine tr_seq_k fun _ _ => ?_
            | (refine tr_region ?_; simp only [go_sem, List.getElem?_toArray, str_beq, reduceCtorEq, Nat.reduceEqDiff, Nat.reduceLT, Nat.reduceLeDiff, Nat.reduceAdd, Nat.reduceMul, Nat.reduceSub, Nat.reduceBEq, ↓reduceIte, bne_self_eq_false, Bool.and_false, Bool.false_and, Bool.true_or, Bool.false_or, hix, b1, one_max, ap, ws])
            | refine k_of (by assumption) ?_
            | refine tr_block ?_
            | refine tr_scope ?_
            | (refine tr_skip ?_; try simp only [ex_seq, ex_block])
            | (refine tr_label ?_; try simp only [ex_seq, ex_block])
            | (refine tr_exit ?_; try simp only [ex_seq_exit, ex_block_exit, Nat.reduceEqDiff, if_true, if_false, ex_seq, ex_block, reduceCtorEq, ↓reduceIte])
            | (refine tr_ret ?_; try simp only [ex_seq_ret, ex_block_ret]))
        exact hK (k + 1) _ _ hlt ⟨⟨rfl, rfl, rfl, rfl, rfl, trivial⟩, Keep.of (eh := [_]) (ew := []) rfl (List.append_nil _).symm, by simp only [lowF, low_col]; rfl, rfl, Nat.le_refl _, Nat.zero_le _⟩ (by omega)
      · have hkl : k = a.count := by
          have := of_decide_eq_false hf
          omega
        subst hkl
        repeat (first
            | refine tr_seq_k fun _ _ => ?_
            | (refine tr_region ?_; simp only [go_sem, List.getElem?_toArray, str_beq, reduceCtorEq, Nat.reduceEqDiff, Nat.reduceLT, Nat.reduceLeDiff, Nat.reduceAdd, Nat.reduceMul, Nat.reduceSub, Nat.reduceBEq, ↓reduceIte, bne_self_eq_false, Bool.and_false, Bool.false_and, Bool.true_or, Bool.false_or, e3, e4, e5])
            | (refine call_of (cj) ?_ ?_
               · first | rfl | simp only [go_sem, List.getElem?_toArray, str_beq, reduceCtorEq, Nat.reduceEqDiff, Nat.reduceLT, Nat.reduceLeDiff, Nat.reduceAdd, Nat.reduceMul, Nat.reduceSub, Nat.reduceBEq, ↓reduceIte, bne_self_eq_false, Bool.and_false, Bool.false_and, Bool.true_or, Bool.false_or, e3, e4, e5, shut_col]
               simp only [go_sem, List.getElem?_toArray, str_beq, reduceCtorEq, Nat.reduceEqDiff, Nat.reduceLT, Nat.reduceLeDiff, Nat.reduceAdd, Nat.reduceMul, Nat.reduceSub, Nat.reduceBEq, ↓reduceIte, bne_self_eq_false, Bool.and_false, Bool.false_and, Bool.true_or, Bool.false_or, e3, e4, e5])
            | refine k_of (by assumption) ?_
            | refine tr_block ?_
            | refine tr_scope ?_
            | (refine tr_skip ?_; try simp only [ex_seq, ex_block])
            | (refine tr_label ?_; try simp only [ex_seq, ex_block])
            | (refine tr_exit ?_; try simp only [ex_seq_exit, ex_block_exit, Nat.reduceEqDiff, if_true, if_false, ex_seq, ex_block, reduceCtorEq, ↓reduceIte])
            | (refine tr_ret ?_; try simp only [ex_seq_ret, ex_block_ret]))
        refine (hQ _ _ [sA ((((a.says ++ tSays) ++ a.pred) ++ tOpen) ++ joinB (anames a a.count) tComma ++ tShut)] ?_ (fun m => by rw [hT]; rfl)).2 <;> simp only [go_sem, List.getElem?_toArray, str_beq, reduceCtorEq, Nat.reduceEqDiff, Nat.reduceLT, Nat.reduceLeDiff, Nat.reduceAdd, Nat.reduceMul, Nat.reduceSub, Nat.reduceBEq, ↓reduceIte, bne_self_eq_false, Bool.and_false, Bool.false_and, Bool.true_or, Bool.false_or, Tryd.f48]
end Go.Proofs.YtaeehadibckcjaaDoor

/-
  A slice that was collected by a callee, as a local block of the caller's; a callee that works in the caller's memory. No program in sight.
-/
namespace Go.Vs.Ab
open Go.RowKit
variable {P : Program} {X : Mem} {W0 w w' : World} {m : Mm}
theorem vals_getv : ∀ {cs : List CV} {xs : List Value}, vals cs = some xs → ∀ (i : Nat) (c : CV), cs[i]? = some c → ∃ x, c = .v x ∧ xs[i]? = some x
  | [], xs, h, i, c, hc => by simp at hc
  | .sl .. :: _, _, h, _, _, _ => by simp [vals] at h
  | .v x :: r, xs, h, i, c, hc => by
    simp only [vals, Option.map_eq_some_iff] at h
    obtain ⟨ys, h1, rfl⟩ := h
    cases i with
    | zero => simp at hc; exact ⟨x, hc.symm, rfl⟩
    | succ i =>
      obtain ⟨y, h2, h3⟩ := vals_getv h1 i c (by simpa using hc)
      exact ⟨y, h2, by simpa using h3⟩
theorem MR.adopt (M : MR X W0 m w) {β R : Nat} {cur : Array Value} {t : TypeId} {cs : List AV} (hW : W0.heap.size ≤ β) (hcell : ∀ o, X.cell β o = none) (hloc : ∀ i, X.loc i ≠ some β) (hown : ∀ k T, X.own k = some T → T.g ≠ β)
    (hheap : w.heap[β]? = some (.cells cur t (0, 0))) (hl : cs.length ≤ cur.size) (hr : Reps X cs (cur.toList.take cs.length)) (hR : X.room β ≤ R) (hRs : R ≤ cur.size) :
    MR (X.adopt m.hp.length β R) W0 { m with hp := m.hp ++ [⟨false, cs⟩] } w ∧ X.Le W0.heap.size (X.adopt m.hp.length β R) :=
  M.adopt' hW hcell (fun i _ h _ => absurd h (hloc i)) hown hheap hl hr hR hRs
theorem Does.lsl {F : FuncId} {args args' : List AV} {f : Mm → AV × Mm} (h : Does P F args' f) (hs : shuts args = some args') {k n : Nat} {e : TypeId} {size : Nat} {cs : List CV} {xs : List Value} {m1 : Mm} (hf : f ⟨[], []⟩ = (.own k n cs, m1)) (hk : m1.hw[k]? = some ⟨n, e, size⟩) (hv : vals cs = some xs) (m : Mm) :
    Gives P F args m (.lsl m.hp.length 0 n size) { m with hp := m.hp ++ [⟨false, cs.map .c⟩] } := by
  refine ⟨h.1, fun X W0 w vs M ha => ?_⟩
  refine (h.2 X.bare w ⟨[], []⟩ w vs (bare_MR M) (shuts_rep (X := X) (Y := X.bare) rfl hs ha)).mono ?_
  rintro _ w' ⟨v, X1, rfl, k1, k2, k3, _⟩
  rw [hf] at k2 k3
  have M1 := M.grow k3.below
  obtain ⟨T, t1, ⟨t2, t2e, t2s⟩, t3, t4, t5, t6, ⟨cur, t7, t8⟩, t9, t10⟩ := k3.toks k _ hk
  simp only at t2 t2e t2s
  cases k2 with
  | own hr hn1 hc hx ht =>
    rename_i ys a cap
    obtain ⟨T', u1, u2, u3⟩ := ht
    rw [t1] at u1
    injection u1 with u1
    subst u1
    obtain ⟨rfl, rfl⟩ := u3 t2.symm
    have hnew : ∀ o, X.cell T.g o = none := fun o => by
      cases hq : X.cell T.g o with
      | none => rfl
      | some x => have := M.cellBlock hq; omega
    have hroom : X.room T.g = 0 := by
      rcases Nat.eq_zero_or_pos (X.room T.g) with h0 | h0
      · exact h0
      · obtain ⟨ar, tt, zz, q1, _⟩ := M.rm T.g h0
        have := (Array.getElem?_eq_some_iff.1 q1).1
        omega
    have hcurj : ∀ (j : Nat) (x : Value), ys[j]? = some x → cur[j]? = some x := fun j x hj => by
      obtain ⟨b, o, e1, e2⟩ := hx j x hj
      injection e1 with e1
      injection e1 with e1 e3
      subst e1 e3
      have h5 := k3.cell _ _ _ e2
      rw [Nat.zero_add] at h5
      simp only [World.cell?, t7] at h5
      simpa using h5
    have hlen : cs.length ≤ cur.size := by
      rcases Nat.eq_zero_or_pos cs.length with h0 | h0
      · omega
      · have hl : cs.length - 1 < ys.length := by rw [← hr.1]; omega
        have := hcurj _ _ (List.getElem?_eq_getElem hl)
        have := (Array.getElem?_eq_some_iff.1 this).1
        omega
    have hrp : Reps X (cs.map .c) (cur.toList.take (cs.map AV.c).length) := by
      rw [List.length_map]
      refine ⟨by rw [List.length_map, List.length_take]; simp only [Array.length_toList]; omega, fun i c x h1 h2 => ?_⟩
      rw [List.getElem?_map, Option.map_eq_some_iff] at h1
      obtain ⟨c0, h1, rfl⟩ := h1
      have hi := (List.getElem?_eq_some_iff.1 h1).1
      rw [List.getElem?_take, if_pos hi, Array.getElem?_toList] at h2
      obtain ⟨x0, rfl, _⟩ := vals_getv hv i c0 h1
      have hl : i < ys.length := by rw [← hr.1]; exact hi
      have h3 := hcurj i _ (List.getElem?_eq_getElem hl)
      rw [h2] at h3
      injection h3 with h3
      have h4 := hr.2 i _ _ h1 (List.getElem?_eq_getElem hl)
      rw [← h3] at h4
      cases h4 with
      | v h5 => exact .c (.v h5)
    obtain ⟨A, hle⟩ := M1.adopt (β := T.g) (R := T.cap * T.size) (Nat.le_trans M.below.size t3) hnew (fun i hi => by have := (M.locBlock hi).1; omega) (fun k S hS e => by have := (M.tokBlock hS).1; omega) t7 (by rw [List.length_map]; exact hlen) hrp (by rw [hroom]; exact Nat.zero_le _) (by rw [t8]; exact Nat.le_refl _)
    refine ⟨_, X.adopt m.hp.length T.g (T.cap * T.size), rfl, hle, ?_, A, fun i β hi => k3.below.block β (M.locBlock hi).1⟩
    refine .lsl (by simp [Mem.adopt]) (fun _ => by rw [Nat.zero_mul]) hn1 hc.1 ?_
    simp only [Mem.adopt, if_true]
    rw [t2s, Nat.zero_add]
    exact Nat.le_refl _
theorem givesW_of {F : FuncId} {fn : Func} {c : Code} (hF : P.funcs[F]? = some fn) (hb : fn.body = some c) (hcb : callableB fn = true) {args : List AV} {r : AV} {m m' : Mm} (hle : args.length ≤ fn.ntmps)
    (h : Tr fle P fn.ntmps c (initFr 0 args) m (fun e fr m1 => (∀ id, e ≠ .exit id) ∧ ∃ cs, resAll P fr m1 fn.results.toList = some cs ∧ resV cs = r ∧ m1 = m')) : GivesW P F args m r m' := by
  refine ⟨callable_of hF hcb, fun X W0 w vs M hargs => ?_⟩
  refine (calls_of_wp hF hb (R := fun e w' => ∃ v X', e = .returned v ∧ X.Le W0.heap.size X' ∧ Rep X' r v ∧ MR X' W0 m' w') (wp_mono (h X W0 w _ (FR.init hargs hle) M) ?_))
  rintro _ a' w' ⟨ex, fr', m1, X1, rfl, ⟨hne, cs, h1, rfl, rfl⟩, k1, k2, k3⟩
  obtain ⟨vs', g1, g2⟩ := resAll_ok k2 k3 h1
  have : a'.defers = [] ∧ ∃ v, (results fn a'.tmps).run P w' = .ok v w' ∧ ∃ v2 X', Ending.returned v = .returned v2 ∧ X.Le W0.heap.size X' ∧ Rep X' (resV cs) v2 ∧ MR X' W0 m1 w' :=
    ⟨k2.defers, _, results_run g2, _, X1, rfl, k1, resV_ok g1, k3⟩
  cases ex with
  | nrm => exact this
  | ret => exact this
  | exit id => exact absurd rfl (hne id)
theorem givesW_of' {F : FuncId} {fn : Func} {c : Code} {rs : List ResultVar} (hF : P.funcs[F]? = some fn) (hb : fn.body = some c) (hcb : callableB fn = true) {args : List AV} {r : AV} {m m' : Mm} {nt : Nat} (hnt : fn.ntmps = nt) (hle : Nat.ble args.length nt = true) (hrs : fn.results.toList = rs)
    (h : ∀ Q : Ex → Fr → Mm → Prop, (∀ fr m1 cs, resAll P fr m1 rs = some cs → resV cs = r → m1 = m' → Q .nrm fr m1 ∧ Q .ret fr m1) → Tr fle P nt c (initFr 0 args) m Q) : GivesW P F args m r m' := by
  subst hnt hrs
  exact givesW_of hF hb hcb (by simpa using hle) (h _ fun fr m1 cs h1 h2 h3 => ⟨⟨(fun _ h => by cases h), cs, h1, h2, h3⟩, ⟨(fun _ h => by cases h), cs, h1, h2, h3⟩⟩)
end Go.Vs.Ab

/-
  Blocks that hold a list of encoded things; slices over them, written in place, closed. No program in sight.
-/
namespace Go.Vs.Ab
open Go.RowKit
variable {P : Program} {X : Mem} {W0 w w' : World} {m : Mm}
def blC {T : Type} (enc : T → List CV) (l : List T) : List AV := (l.flatMap enc).map .c
theorem plainB_blC {T : Type} {enc : T → List CV} {l : List T} : plainB (blC enc l) = true := by
  unfold blC
  cases l.flatMap enc <;> rfl
theorem lows_c (i j : Nat) : ∀ ds : List CV, lows i j (ds.map .c) = true
  | [] => rfl
  | d :: r => by
    show (low i j (.c d) && lows i j (r.map .c)) = true
    rw [lows_c i j r]
    rfl
theorem lows_blC {T : Type} {enc : T → List CV} {l : List T} {i j : Nat} : lows i j (blC enc l) = true := lows_c i j _
theorem len_blC {T : Type} {enc : T → List CV} {size : Nat} (hk : ∀ x, (enc x).length = size) (l : List T) : (blC enc l).length = l.length * size := by
  unfold blC
  rw [List.length_map, flat_length enc size hk]
theorem cleans_map : ∀ ds : List CV, cleans (ds.map .c) = some ds
  | [] => rfl
  | d :: r => by
    show cleans (.c d :: r.map .c) = _
    simp only [cleans, clean, cleans_map r]
theorem drop_blC {T : Type} {enc : T → List CV} {size : Nat} (hk : ∀ x, (enc x).length = size) {l : List T} {k : Nat} (h : k < l.length) : List.drop (k * size) (blC enc l) = (enc l[k]).map .c ++ blC enc (l.drop (k + 1)) := by
  unfold blC
  rw [← List.map_drop, flat_drop enc size hk l k h, List.map_append]
theorem fit_blC {T : Type} {enc : T → List CV} {size : Nat} (hk : ∀ x, (enc x).length = size) {l : List T} {k : Nat} (h : k < l.length) : k * size + size ≤ (blC enc l).length := by
  rw [len_blC hk]
  have : (k + 1) * size ≤ l.length * size := Nat.mul_le_mul_right _ h
  rwa [Nat.add_mul, Nat.one_mul] at this
theorem take_flat {T : Type} {enc : T → List CV} {size : Nat} (hk : ∀ x, (enc x).length = size) (l : List T) (k : Nat) : List.take (k * size) (l.flatMap enc) = (l.take k).flatMap enc := by
  induction k generalizing l with
  | zero => simp
  | succ k ih =>
    cases l with
    | nil => simp
    | cons x l =>
      rw [List.flatMap_cons, List.take_succ_cons, List.flatMap_cons, ← ih l]
      have : (k + 1) * size = (enc x).length + k * size := by rw [hk, Nat.add_mul, Nat.one_mul, Nat.add_comm]
      rw [this, List.take_append]
      have h1 : List.take ((enc x).length + k * size) (enc x) = enc x := List.take_of_length_le (by omega)
      rw [h1]
      congr 2
      omega
theorem drop_flat {T : Type} {enc : T → List CV} {size : Nat} (hk : ∀ x, (enc x).length = size) (l : List T) (k : Nat) : List.drop (k * size) (l.flatMap enc) = (l.drop k).flatMap enc := by
  induction k generalizing l with
  | zero => simp
  | succ k ih =>
    cases l with
    | nil => simp
    | cons x l =>
      rw [List.flatMap_cons, List.drop_succ_cons, ← ih l]
      have : (k + 1) * size = (enc x).length + k * size := by rw [hk, Nat.add_mul, Nat.one_mul, Nat.add_comm]
      rw [this, ← List.drop_drop, List.drop_left' rfl]
theorem set_blC {T : Type} {enc : T → List CV} {size : Nat} (hk : ∀ x, (enc x).length = size) {l : List T} {k : Nat} (h : k < l.length) (x : T) : List.take (k * size) (blC enc l) ++ (enc x).map AV.c ++ List.drop (k * size + size) (blC enc l) = blC enc (l.set k x) := by
  unfold blC
  have e : k * size + size = (k + 1) * size := by rw [Nat.add_mul, Nat.one_mul]
  rw [← List.map_take, ← List.map_drop, e, take_flat hk, drop_flat hk, List.set_eq_take_append_cons_drop, if_pos h, List.flatMap_append, List.flatMap_cons, List.map_append, List.map_append, List.append_assoc]
theorem idxL {t e : TypeId} {size : Nat} (ht : P.underlying t = some (.slice e)) (hs : tsz P e = some size) (h0 : 0 < size) {b lo n k : Nat} {ik : IntKind} (h : k < n) : aIndexL P t (.lsl b lo n size) (.c (.v (.int ik (k : Int)))) = some (.ptr b ((lo + k) * size)) := by
  have h1 : Nat.blt k n = true := by simpa using h
  have h2 : Nat.blt 0 size = true := by simpa using h0
  have hn : natI (k : Int) = some k := natI_nat k
  simp only [aIndexL, ht, lsV, intV, hs, hn, h1, h2, Nat.beq_refl, Bool.and_self, if_true]
theorem slL_from {t e : TypeId} {size : Nat} (ht : P.underlying t = some (.slice e)) (hs : tsz P e = some size) {b lo n k : Nat} (h : k ≤ n) : aSliceL P t (.lsl b lo n size) (some (k : Int)) none none = some (.lsl b (lo + k) (n - k) size) := by
  have hb : bnds n (some (k : Int)) none none = some (k, n, none) := by
    unfold bnds
    simp [natI_nat, h]
  simp only [aSliceL, ht, lsV, hs, hb, Nat.beq_refl, if_true]
theorem slL_to {t e : TypeId} {size : Nat} (ht : P.underlying t = some (.slice e)) (hs : tsz P e = some size) {b lo n k : Nat} (h : k ≤ n) : aSliceL P t (.lsl b lo n size) none (some (k : Int)) none = some (.lsl b lo k size) := by
  have hb : bnds n none (some (k : Int)) none = some (0, k, none) := by
    unfold bnds
    simp [natI_nat, h]
  simp only [aSliceL, ht, lsV, hs, hb, Nat.beq_refl, if_true, Nat.add_zero, Nat.sub_zero]
theorem zrs_rep {T : Type} {enc : T → List CV} (z : T) (n : Nat) (h : 0 < (enc z).length) : zrs n (enc z) = blC enc (List.replicate n z) := by
  have key : ∀ n, (List.range (n * (enc z).length)).map (fun i => (enc z).getD (i % (enc z).length) default) = (List.replicate n z).flatMap enc := fun n => by
    induction n with
    | zero => simp
    | succ n ih =>
      rw [List.replicate_succ', List.flatMap_append, ← ih, Nat.add_mul, Nat.one_mul, List.range_add, List.map_append]
      congr 1
      simp only [List.flatMap_cons, List.flatMap_nil, List.append_nil, List.map_map]
      apply List.ext_getElem?
      intro i
      rw [List.getElem?_map]
      by_cases hi : i < (enc z).length
      · rw [List.getElem?_range hi]
        simp only [Option.map_some, Function.comp]
        rw [Nat.add_comm, Nat.add_mul_mod_self_right, Nat.mod_eq_of_lt hi, List.getD_eq_getElem?_getD, List.getElem?_eq_getElem hi]
        rfl
      · rw [List.getElem?_eq_none (by simpa using hi), List.getElem?_eq_none (Nat.le_of_not_lt hi)]
        rfl
  unfold zrs blC
  rw [key]
theorem clear_blC {T : Type} {enc : T → List CV} {size : Nat} (hk : ∀ x, (enc x).length = size) (h0 : 0 < size) {t e : TypeId} (ht : P.underlying t = some (.slice e)) {z : T} (hz : tzero P e = some (enc z)) {l : List T} {i : Nat} (hi : i ≤ l.length) {hw : List Hw} :
    aClear P ⟨[⟨false, blC enc l⟩], hw⟩ t (.lsl 0 i (l.length - i) size) = some ⟨[⟨false, blC enc (l.take i ++ List.replicate (l.length - i) z)⟩], hw⟩ := by
  simp only [aClear, ht, lsV, hz]
  by_cases hn : l.length - i = 0
  · rw [hn]
    rw [if_pos (by rfl)]
    rw [List.take_of_length_le (by omega)]
    simp
  · have hb : Nat.beq (l.length - i) 0 = false := by
      rw [Bool.eq_false_iff]
      exact fun e => hn (Nat.eq_of_beq_eq_true e)
    have hle : Nat.ble (i * size + (l.length - i) * size) (blC enc l).length = true := by
      rw [len_blC hk, ← Nat.add_mul, Nat.ble_eq]
      exact Nat.mul_le_mul_right _ (by omega)
    simp only [hb, if_false, List.getElem?_cons_zero, hk, Nat.beq_refl, plainB_blC, hle, Bool.not_false, Bool.and_self, if_true, Bool.false_eq_true]
    rw [zrs_rep z _ (by rw [hk]; exact h0)]
    have e1 : List.drop (i * size + (l.length - i) * size) (blC enc l) = [] := by
      apply List.drop_eq_nil_of_le
      rw [len_blC hk, ← Nat.add_mul]
      exact Nat.mul_le_mul_right _ (by omega)
    rw [e1, List.append_nil]
    unfold blC
    rw [← List.map_take, take_flat hk, ← List.map_append, ← List.flatMap_append]
    rfl
theorem GivesW.freeze {F : FuncId} {args : List AV} {b lo n k : Nat} {m1 : Mm} (h : GivesW P F args m (.lsl b lo n k) m1) {ds : List CV} (hb : m1.hp[b]? = some ⟨false, ds.map .c⟩) :
    GivesW P F args m (.c (.sl false n ((ds.drop (lo * k)).take (n * k)))) { m1 with hp := m1.hp.set b ⟨true, ds.map .c⟩ } := by
  refine ⟨h.1, fun X W0 w vs M hargs => (h.2 X W0 w vs M hargs).mono ?_⟩
  rintro _ w' ⟨v, X1, rfl, k1, k2, k3⟩
  have hz : aFreeze m1 b = some { m1 with hp := m1.hp.set b ⟨true, ds.map .c⟩ } := by
    simp only [aFreeze, hb, cleans_map]
    rfl
  obtain ⟨X2, l1, l2, _⟩ := aFreeze_ok k3 hz
  have hlt := (List.getElem?_eq_some_iff.1 hb).1
  refine ⟨v, X2, rfl, k1.trans l1, ?_, l2⟩
  have k4 := k2.mono l1
  cases k4 with
  | lsl hl ho hn hcap hrm =>
    rename_i β o cap
    have hf : fixedAt { m1 with hp := m1.hp.set b ⟨true, ds.map .c⟩ } (.ptr b (lo * k)) = some (ds.drop (lo * k)) := by
      simp only [fixedAt, List.getElem?_set_self hlt, if_true, cleans_map, Option.map_some]
    obtain ⟨b', o', xs, e, r1, r2⟩ := fixedAt_rep l2 hf (.ptr hl)
    injection e with e
    injection e with e
    injection e with e1 e2
    subst e1 e2
    have q1 := r1.take (n * k)
    have q2 := r2.take (n * k)
    refine .c (.sl q1.1 q1.2 hn ⟨hcap, fun e => by cases e⟩ (fun e => by cases e) ?_)
    rcases Nat.eq_zero_or_pos cap with h0 | h0
    · have : n = 0 := by omega
      subst this
      rw [Nat.zero_mul, List.take_zero]
      exact fun j x h => by cases h
    · rw [ho h0]
      exact q2
attribute [go_sem] plainB_blC
end Go.Vs.Ab

/-
  A slice that was collected, from now on a local block; what was claimed of new cells is forgotten. No program in sight.
-/
namespace Go.Vs.Ab
open Go.RowKit
variable {P : Program} {X : Mem} {W0 w w' : World} {m : Mm} {nt : Nat} {fr : Fr} {Q : Ex → Fr → Mm → Prop}
def allV : List CV → Bool
  | [] => true
  | .v _ :: r => allV r
  | .sl .. :: _ => false
def free : AV → Bool
  | .c (.v _) => true
  | .agg cs => allV cs
  | .ptr _ _ => true
  | .mapp _ => true
  | _ => false
def frees : List AV → Bool
  | [] => true
  | c :: r => free c && frees r
def freeF : Fr → Bool
  | [] => true
  | (_, c) :: r => free c && freeF r
def freeB : List Blk → Bool
  | [] => true
  | b :: r => !b.fz && (frees b.cs && freeB r)
theorem allV_rep {C D : Nat → Nat → Option Value} : ∀ {cs : List CV} {xs : List Value}, allV cs = true → RepCs C cs xs → RepCs D cs xs := fun {cs xs} h hr => by
  refine ⟨hr.1, fun i c x h1 h2 => ?_⟩
  have key : ∀ {cs : List CV} (i : Nat) (c : CV), allV cs = true → cs[i]? = some c → ∃ v, c = .v v := fun {cs} => by
    induction cs with
    | nil => intro i c _ h; simp at h
    | cons d r ih =>
      intro i c ha hc
      cases d with
      | v x =>
        cases i with
        | zero => simp at hc; exact ⟨x, hc.symm⟩
        | succ i => exact ih i c ha (by simpa using hc)
      | sl => cases ha
  obtain ⟨v, rfl⟩ := key i c h h1
  have := hr.2 i _ x h1 h2
  cases this with
  | v h => exact .v h
theorem Rep.free {Y : Mem} {c : AV} {x : Value} (h : Rep X c x) (hf : Ab.free c = true) (hl : ∀ i β, X.loc i = some β → Y.loc i = some β) : Rep Y c x := by
  cases h with
  | c h =>
    cases h with
    | v h => exact .c (.v h)
    | sl => cases hf
  | agg h => exact .agg (allV_rep hf h)
  | ptr h => exact .ptr (hl _ _ h)
  | mapp h => exact .mapp (hl _ _ h)
  | tup => cases hf
  | own => cases hf
  | cptr => cases hf
  | fn => cases hf
  | lsl => cases hf
  | ifc => cases hf
  | strc => cases hf
theorem frees_get : ∀ {cs : List AV}, frees cs = true → ∀ (k : Nat) (c : AV), cs[k]? = some c → free c = true
  | [], _, k, c, h => by simp at h
  | x :: r, h, k, c, hc => by
    simp only [frees, Bool.and_eq_true] at h
    cases k with
    | zero => simp at hc; subst hc; exact h.1
    | succ k => exact frees_get h.2 k c (by simpa using hc)
theorem freeF_find : ∀ {fr : Fr}, freeF fr = true → ∀ t c, find fr t = some c → free c = true
  | [], _, t, c, h => by cases h
  | (s, d) :: r, h, t, c, hc => by
    simp only [freeF, Bool.and_eq_true] at h
    simp only [find] at hc
    split at hc
    · injection hc with hc; subst hc; exact h.1
    · exact freeF_find h.2 t c hc
theorem freeB_get : ∀ {bs : List Blk}, freeB bs = true → ∀ (k : Nat) (b : Blk), bs[k]? = some b → b.fz = false ∧ frees b.cs = true
  | [], _, k, b, h => by simp at h
  | x :: r, h, k, b, hb => by
    simp only [freeB, Bool.and_eq_true, Bool.not_eq_true'] at h
    cases k with
    | zero => simp at hb; subst hb; exact ⟨h.1, h.2.1⟩
    | succ k => exact freeB_get h.2.2 k b (by simpa using hb)
def Mem.old (X : Mem) (base : Nat) : Mem := ⟨fun b o => if b < base then X.cell b o else none, X.loc, fun _ => none, X.room⟩
theorem MR.old (M : MR X W0 m w) (hb : freeB m.hp = true) : MR (X.old W0.heap.size) W0 ⟨m.hp, []⟩ w := by
  have hsub : ∀ b o x, (X.old W0.heap.size).cell b o = some x → X.cell b o = some x := fun b o x h => by
    simp only [Mem.old] at h
    split at h
    · exact h
    · cases h
  have hno : ∀ β, (∀ o, X.cell β o = none) → ∀ o, (X.old W0.heap.size).cell β o = none := fun β h o => by
    simp only [Mem.old]
    split
    · exact h o
    · rfl
  refine ⟨M.below, fun b o x h => M.cell b o x (hsub b o x h), M.ldom, fun i blk h => ?_, M.inj, fun k T h => (by cases h), fun k n h => (by simp at h), fun i j S T h => (by cases h), M.gl, M.rm⟩
  obtain ⟨β, h1, h2, h3, hB⟩ := M.locs i blk h
  obtain ⟨hfz, hfr⟩ := freeB_get hb i blk h
  refine ⟨β, h1, h2, h3, ?_⟩
  cases hB with
  | dead h => exact .dead h
  | ent g1 g2 g3 g4 g5 => exact .ent g1 g2 g3 g4 (hno β g5)
  | bld g1 => rw [g1] at hfr; cases hfr
  | byt g1 => rw [g1] at hfr; cases hfr
  | cells g1 g2 g3 g4 g5 =>
    refine .cells g1 g2 ⟨g3.1, fun k c x q1 q2 => (g3.2 k c x q1 q2).free (frees_get hfr k c q1) fun _ _ h => h⟩ (fun e => by rw [hfz] at e; cases e) (fun e => hno β (g5 e))
theorem tr_thaw {c : Code} {s k n : Nat} {cs : List CV} {xs : List Value} {e : TypeId} {size : Nat} {fr0 : Fr} (hf : find fr s = some (.own k n cs)) (hk : m.hw[k]? = some ⟨n, e, size⟩) (hv : vals cs = some xs) (hs : SubF fr0 fr) (hc : freeF fr0 = true) (hb : freeB m.hp = true)
    (h : Tr cle P nt c ((s, .lsl m.hp.length 0 n size) :: fr0) ⟨m.hp ++ [⟨false, cs.map .c⟩], []⟩ Q) : Tr cle P nt c fr m Q := fun X W0 w a F M => by
  obtain ⟨v, hv1, hv2⟩ := F.slot s _ hf
  obtain ⟨T, t1, ⟨t2, t2e, t2s⟩, t3, t4, t5, t6, ⟨cur, t7, t8⟩, t9, t10⟩ := M.toks k _ hk
  simp only at t2 t2e t2s
  cases hv2 with
  | own hr hn1 hcap hx ht =>
    rename_i ys a0 cap
    obtain ⟨T', u1, u2, u3⟩ := ht
    rw [t1] at u1
    injection u1 with u1
    subst u1
    obtain ⟨rfl, rfl⟩ := u3 t2.symm
    have hcurj : ∀ (j : Nat) (x : Value), ys[j]? = some x → cur[j]? = some x := fun j x hj => by
      obtain ⟨b, o, e1, e2⟩ := hx j x hj
      injection e1 with e1
      injection e1 with e1 e3
      subst e1 e3
      have h5 := M.cell _ _ _ e2
      rw [Nat.zero_add] at h5
      simp only [World.cell?, t7] at h5
      simpa using h5
    have hlen : cs.length ≤ cur.size := by
      rcases Nat.eq_zero_or_pos cs.length with h0 | h0
      · omega
      · have hl : cs.length - 1 < ys.length := by rw [← hr.1]; omega
        have := hcurj _ _ (List.getElem?_eq_getElem hl)
        have := (Array.getElem?_eq_some_iff.1 this).1
        omega
    have hrp : Reps (X.old W0.heap.size) (cs.map .c) (cur.toList.take (cs.map AV.c).length) := by
      rw [List.length_map]
      refine ⟨by rw [List.length_map, List.length_take]; simp only [Array.length_toList]; omega, fun i c x h1 h2 => ?_⟩
      rw [List.getElem?_map, Option.map_eq_some_iff] at h1
      obtain ⟨c0, h1, rfl⟩ := h1
      have hi := (List.getElem?_eq_some_iff.1 h1).1
      rw [List.getElem?_take, if_pos hi, Array.getElem?_toList] at h2
      obtain ⟨x0, rfl, _⟩ := vals_getv hv i c0 h1
      have hl : i < ys.length := by rw [← hr.1]; exact hi
      have h3 := hcurj i _ (List.getElem?_eq_getElem hl)
      rw [h2] at h3
      injection h3 with h3
      have h4 := hr.2 i _ _ h1 (List.getElem?_eq_getElem hl)
      rw [← h3] at h4
      cases h4 with
      | v h5 => exact .c (.v h5)
    have hroom : (X.old W0.heap.size).room T.g ≤ T.cap * T.size := by
      show X.room T.g ≤ _
      rcases Nat.eq_zero_or_pos (X.room T.g) with h0 | h0
      · omega
      · obtain ⟨ar, tt, zz, q1, q2⟩ := M.rm T.g h0
        rw [t7] at q1
        injection q1 with q1
        injection q1 with q1 q3
        subst q1
        omega
    obtain ⟨A, hle⟩ := (M.old hb).adopt (β := T.g) (R := T.cap * T.size) (cs := cs.map .c) t3 (fun o => by simp only [Mem.old]; rw [if_neg (by omega)]) t10 (fun k S hS => by cases hS) t7 (by rw [List.length_map]; exact hlen) hrp hroom (by rw [t8]; exact Nat.le_refl _)
    have hXY : cle W0.heap.size X ((X.old W0.heap.size).adopt m.hp.length T.g (T.cap * T.size)) := by
      refine ⟨fun b o x hb hx => ?_, fun b o x hb hx => ?_, hle.loc, hle.room⟩
      · simp only [Mem.adopt, Mem.old]
        rw [if_pos hb]
        exact hx
      · simp only [Mem.adopt, Mem.old] at hx
        rw [if_pos hb] at hx
        exact hx
    have F' : FR ((X.old W0.heap.size).adopt m.hp.length T.g (T.cap * T.size)) nt ((s, .lsl m.hp.length 0 n size) :: fr0) a := by
      refine ⟨F.size, F.defers, fun t c' hc' => ?_⟩
      simp only [find] at hc'
      split at hc'
      · rename_i est
        have est := Nat.eq_of_beq_eq_true est
        subst est
        injection hc' with hc'
        subst hc'
        refine ⟨_, hv1, .lsl (by simp [Mem.adopt]) (fun _ => by rw [Nat.zero_mul]) hn1 hcap.1 ?_⟩
        simp only [Mem.adopt, if_true]
        rw [t2s, Nat.zero_add]
        exact Nat.le_refl _
      · obtain ⟨x, p1, p2⟩ := F.slot t c' (hs.spec t c' hc')
        exact ⟨x, p1, p2.free (freeF_find hc t c' hc') hle.loc⟩
    refine wp_mono (h _ W0 w a F' A) ?_
    rintro _ a' w' ⟨ex, fr', m', X', rfl, hq, k1, k2, k3⟩
    exact ⟨ex, fr', m', X', rfl, hq, RelOk.trans hXY k1, k2, k3⟩
theorem lsl_closed {b lo n k : Nat} {ds : List CV} {v : Value} (l2 : MR X W0 { m with hp := m.hp.set b ⟨true, ds.map .c⟩ } w) (hlt : b < m.hp.length) (k4 : Rep X (.lsl b lo n k) v) : Rep X (.c (.sl false n ((ds.drop (lo * k)).take (n * k)))) v := by
  cases k4 with
  | lsl hl ho hn hcap hrm =>
    rename_i β o cap
    have hf : fixedAt { m with hp := m.hp.set b ⟨true, ds.map .c⟩ } (.ptr b (lo * k)) = some (ds.drop (lo * k)) := by
      simp only [fixedAt, List.getElem?_set_self hlt, if_true, cleans_map, Option.map_some]
    obtain ⟨b', o', xs, e, r1, r2⟩ := fixedAt_rep l2 hf (.ptr hl)
    injection e with e
    injection e with e
    injection e with e1 e2
    subst e1 e2
    have q1 := r1.take (n * k)
    have q2 := r2.take (n * k)
    refine .c (.sl q1.1 q1.2 hn ⟨hcap, fun e => by cases e⟩ (fun e => by cases e) ?_)
    rcases Nat.eq_zero_or_pos cap with h0 | h0
    · have : n = 0 := by omega
      subst this
      rw [Nat.zero_mul, List.take_zero]
      exact fun j x h => by cases h
    · rw [ho h0]
      exact q2
theorem tr_frz {R : MRel} [hR : RelOk R] {c : Code} {s b lo n k : Nat} {ds : List CV} (hf : find fr s = some (.lsl b lo n k)) (hb : m.hp[b]? = some ⟨false, ds.map .c⟩)
    (h : Tr R P nt c ((s, .c (.sl false n ((ds.drop (lo * k)).take (n * k)))) :: fr) { m with hp := m.hp.set b ⟨true, ds.map .c⟩ } Q) : Tr R P nt c fr m Q := fun X W0 w a F M => by
  have hz : aFreeze m b = some { m with hp := m.hp.set b ⟨true, ds.map .c⟩ } := by
    simp only [aFreeze, hb, cleans_map]
    rfl
  obtain ⟨X2, l1, l2, _⟩ := aFreeze_ok M hz
  have hlt := (List.getElem?_eq_some_iff.1 hb).1
  have F' : FR X2 nt ((s, .c (.sl false n ((ds.drop (lo * k)).take (n * k)))) :: fr) a := by
    refine ⟨F.size, F.defers, fun t c' hc' => ?_⟩
    simp only [find] at hc'
    split at hc'
    · rename_i est
      have est := Nat.eq_of_beq_eq_true est
      subst est
      injection hc' with hc'
      subst hc'
      obtain ⟨v, p1, p2⟩ := F.slot s _ hf
      exact ⟨v, p1, lsl_closed l2 hlt (p2.mono l1)⟩
    · obtain ⟨x, p1, p2⟩ := F.slot t c' hc'
      exact ⟨x, p1, p2.mono l1⟩
  refine wp_mono (h X2 W0 w a F' l2) ?_
  rintro _ a' w' ⟨ex, fr', m', X', rfl, hq, k1, k2, k3⟩
  exact ⟨ex, fr', m', X', rfl, hq, hR.trans (hR.of l1) k1, k2, k3⟩
end Go.Vs.Ab

/-
  Bytes that grow: a string appended to a slice over a local block; a block that is a Builder. No program in sight.
-/
namespace Go.Vs.Ab
open Go.RowKit
variable {P : Program} {X : Mem} {W0 w w' : World} {m : Mm}
theorem bytV_eq (o : ByteArray) : bytV o = Lib.strCells o := rfl
theorem strCells_app (o s : ByteArray) : Lib.strCells (o ++ s) = Lib.strCells o ++ Lib.strCells s := by
  simp [Lib.strCells]
def BufIs (e : TypeId) (m : Mm) (c : AV) (o : ByteArray) : Prop := (o.size = 0 ∧ c = .c (.v (.slice none 0 0))) ∨ ∃ j, c = .lsl j 0 o.size 1 ∧ m.hp[j]? = some ⟨false, [.byt e o]⟩ ∧ 0 < o.size
def apS (e : TypeId) (m : Mm) (c : AV) (o s : ByteArray) : AV × Mm :=
  if s.size = 0 then (c, m) else
  match c with
  | .lsl j _ _ _ => (.lsl m.hp.length 0 (o ++ s).size 1, { m with hp := m.hp.set j ⟨false, [.dead]⟩ ++ [⟨false, [.byt e (o ++ s)]⟩] })
  | _ => (.lsl m.hp.length 0 (o ++ s).size 1, { m with hp := m.hp ++ [⟨false, [.byt e (o ++ s)]⟩] })
theorem size0 {s : ByteArray} (h : s.size = 0) : s = ⟨#[]⟩ := by
  cases s with
  | mk d =>
    congr 1
    exact Array.eq_empty_of_size_eq_zero h
theorem app_size (o s : ByteArray) : (o ++ s).size = o.size + s.size := by
  rw [← Lib.strCells_length, strCells_app, List.length_append, Lib.strCells_length, Lib.strCells_length]
theorem app_none {o s : ByteArray} (h : s.size = 0) : o ++ s = o := by
  rw [size0 h]
  apply ByteArray.ext
  simp
theorem none_app {o s : ByteArray} (h : o.size = 0) : o ++ s = s := by
  rw [size0 h]
  apply ByteArray.ext
  simp
theorem run_appS_none {t u ty e : TypeId} {i : TypeInfo} (ht : P.underlying t = some (.slice e)) (hu : P.underlying u = some .string) (hi : P.info? e = some i) {a : Option Addr} {n cap : Nat} (hn : n ≤ cap) {s : ByteArray} (h0 : s.size = 0) (w : World) :
    (Builtin.append_ #[t, u] ty #[.slice a n cap, .string s]).run P w = .ok (.slice a n cap) w := by
  obtain rfl := size0 h0
  have hz : (⟨#[]⟩ : ByteArray).size = 0 := rfl
  cases a <;> simp [Builtin.append_, run_under ht, run_under hu, sizeOf, typeInfo, hi, hz, Builtin.lenOf, Builtin.firstCells, hn, storeCells]
theorem run_appS_into {t u ty e : TypeId} {i : TypeInfo} (ht : P.underlying t = some (.slice e)) (hu : P.underlying u = some .string) (hi : P.info? e = some i) (hs1 : i.size = 1) {β n cap : Nat} {arr : Array Value} {tb : TypeId} (hw : w.heap[β]? = some (.cells arr tb (0, 0))) (s : ByteArray)
    (hroom : n + s.size ≤ cap) (hfit : n + s.size ≤ arr.size) :
    (Builtin.append_ #[t, u] ty #[.slice (some ⟨β, 0, none⟩) n cap, .string s]).run P w = .ok (.slice (some ⟨β, 0, none⟩) (n + s.size) cap) (w.setRow β (arr.toList.take n ++ Lib.strCells s ++ arr.toList.drop (n + s.size)).toArray) := by
  have hf := Lib.run_firstCells_string (P := P) w 1 s
  have hst := run_storeCells_at P β n tb (Lib.strCells s) 0 arr w hw (by simpa [Lib.strCells_length] using hfit) (Lib.strCells_oneCell s)
  simp only [Nat.add_zero, Lib.strCells_length] at hst
  simp [Builtin.append_, run_under ht, run_under hu, sizeOf, typeInfo, hi, hs1, Builtin.lenOf, hroom, hf, Addr.add_lit, hst]
theorem MR.newByt (M : MR X W0 m w) {e : TypeId} {o : ByteArray} {rest : Array Value} {R : Nat} (hR : R ≤ ((Lib.strCells o).toArray ++ rest).size) :
    MR (X.adopt m.hp.length w.heap.size R) W0 { m with hp := m.hp ++ [⟨false, [.byt e o]⟩] } (w.drew.alloc (.cells ((Lib.strCells o).toArray ++ rest) e)) ∧ X.Le W0.heap.size (X.adopt m.hp.length w.heap.size R) := by
  have M1 := M.grow (below_drew_alloc w (.cells ((Lib.strCells o).toArray ++ rest) e))
  have hn : (w.drew.alloc (.cells ((Lib.strCells o).toArray ++ rest) e)).heap[w.heap.size]? = some (.cells ((Lib.strCells o).toArray ++ rest) e (0, 0)) := halloc_new w.drew _
  refine M1.adoptB (t := e) M.below.size (fun i bi h _ => ?_) (fun k T h => ?_) hn (.byt rfl hn ?_ ?_ rfl fun q => M.newCell q) ?_ hR
  · have := (M.locBlock h).1; omega
  · have := (M.tokBlock h).1; omega
  · rw [Array.size_append, List.size_toArray, Lib.strCells_length]; omega
  · rw [Array.toList_append, List.take_left' (by rw [← Lib.strCells_length])]
    rfl
  · rw [M.noRoom]; exact Nat.zero_le _
theorem MR.byt (M : MR X W0 m w) {j : Nat} {e : TypeId} {o : ByteArray} (hj : m.hp[j]? = some ⟨false, [.byt e o]⟩) :
    ∃ γ arr, X.loc j = some γ ∧ W0.heap.size ≤ γ ∧ w.heap[γ]? = some (.cells arr e (0, 0)) ∧ o.size ≤ arr.size ∧ arr.toList.take o.size = Lib.strCells o ∧ ∀ q, X.cell γ q = none := by
  obtain ⟨γ, h1, h2, h3, hB⟩ := M.locs j _ hj
  cases hB with
  | dead h => simp at h
  | ent h => simp at h
  | bld h => simp at h
  | byt h g1 g2 g3 g4 g5 =>
    simp only [List.cons.injEq, AV.byt.injEq, and_true] at h
    obtain ⟨rfl, rfl⟩ := h
    exact ⟨γ, _, h1, h2, g1, g2, g3, g5⟩
  | cells _ _ hr => exact (reps_no hr (fun x hx => by cases hx)).elim
theorem byt_alive {e : TypeId} {o : ByteArray} : ¬ (⟨false, [.byt e o]⟩ : Blk).isDead := fun h => by simp [Blk.isDead] at h
theorem appendS_ok (M : MR X W0 m w) {t u ty e : TypeId} {i : TypeInfo} (ht : P.underlying t = some (.slice e)) (hu : P.underlying u = some .string) (hi : P.info? e = some i) (hz : i.zero = some (.int .u8 0)) (hs1 : i.size = 1) (hb1 : i.bytes = 1)
    {o s : ByteArray} {c : AV} {v : Value} (hc : BufIs e m c o) (hv : Rep X c v) (hlen : o.size + s.size ≤ 140737488355328) :
    ∃ V X' w', (Builtin.append_ #[t, u] ty #[v, .string s]).run P w = .ok V w' ∧ X.Le W0.heap.size X' ∧ Rep X' (apS e m c o s).1 V ∧ MR X' W0 (apS e m c o s).2 w' := by
  have hmax : o.size + s.size ≤ maxLen := by unfold maxLen; omega
  unfold apS
  by_cases h0 : s.size = 0
  · rw [if_pos h0]
    have hsl : ∃ a n cap, v = .slice a n cap ∧ n ≤ cap := by
      rcases hc with ⟨_, rfl⟩ | ⟨j, rfl, _, _⟩
      · cases hv with
        | c hv => cases hv with
          | v => exact ⟨_, _, _, rfl, Nat.le_refl _⟩
      · cases hv with
        | lsl _ _ hn => exact ⟨_, _, _, rfl, hn⟩
    obtain ⟨a, n, cap, rfl, hn⟩ := hsl
    exact ⟨_, X, w, run_appS_none ht hu hi hn h0 w, Mem.Le.refl _ _, hv, M⟩
  · rw [if_neg h0]
    have hk0 : 0 < s.size := Nat.pos_of_ne_zero h0
    rcases hc with ⟨ho, rfl⟩ | ⟨j, rfl, hblk, ho0⟩
    · dsimp only
      rw [none_app ho]
      cases hv with
      | c hv =>
        cases hv with
        | v =>
          have key : ∃ cap', s.size ≤ cap' ∧ cap' ≤ maxLen ∧ (Builtin.append_ #[t, u] ty #[.slice none 0 0, .string s]).run P w = .ok (.slice (some ⟨w.heap.size, 0, none⟩) s.size cap') (w.drew.alloc (.cells ((Lib.strCells s).toArray ++ Builtin.zeroCells (Value.int .u8 0).cells (cap' - s.size)) e)) := by
            have hr := run_append_nil_string (P := P) w t u ty e i _ ht hu hi hz s hk0 (by unfold maxLen at hmax; omega) (by rw [hb1]; omega)
            refine ⟨grownCap w s.size 0 e, grownCap_ge w s.size 0 e, grownCap_le_maxLen w s.size 0 e (by omega), ?_⟩
            rw [hr]
            congr 4
            apply Array.ext'
            simp [Lib.strCells]
          obtain ⟨cap', q1, q2, q3⟩ := key
          have hszz : ((Lib.strCells s).toArray ++ Builtin.zeroCells (Value.int .u8 0).cells (cap' - s.size)).size = cap' := by
            simp only [Array.size_append, List.size_toArray, size_zeros, Lib.strCells_length]
            simp [Value.cells]
            omega
          obtain ⟨A, hle⟩ := M.newByt (e := e) (o := s) (R := cap') (by rw [hszz]; exact Nat.le_refl _) (rest := Builtin.zeroCells (Value.int .u8 0).cells (cap' - s.size))
          refine ⟨_, _, _, q3, hle, .lsl ?_ (fun _ => by rw [Nat.zero_mul]) q1 q2 ?_, A⟩
          · simp [Mem.adopt]
          · simp only [Mem.adopt, if_true, Nat.zero_add, Nat.mul_one]
            exact Nat.le_refl _
    · dsimp only
      have hblt := (List.getElem?_eq_some_iff.1 hblk).1
      have Mk := M.kill hblt
      cases hv with
      | lsl hb ho hn hcap hrm =>
        rename_i β off cap
        obtain ⟨β', arr, g1, g2, g3, gal, g4, g6⟩ := M.byt hblk
        rw [hb] at g1
        injection g1 with g1
        subst g1
        have ho := ho (by omega)
        rw [Nat.zero_mul] at ho
        subst ho
        have hlocs : ∀ i bi, X.loc i = some β → (m.hp.set j ⟨false, [.dead]⟩)[i]? = some bi → bi.isDead := fun i bi h1 h2 => by
          by_cases hj : i = j
          · subst hj
            rw [List.getElem?_set_self hblt] at h2
            injection h2 with h2
            rw [← h2]; rfl
          · rw [List.getElem?_set_ne (Ne.symm hj)] at h2
            exact M.alone' h1 hb h2 hblk byt_alive hj
        have hown : ∀ k T, X.own k = some T → T.g ≠ β := fun k T h e => by
          have hk := M.odom k T h
          obtain ⟨T', q1, _, _, _, _, _, _, _, q10⟩ := M.toks k m.hw[k] (List.getElem?_eq_getElem hk)
          rw [h] at q1
          injection q1 with q1
          subst q1
          exact q10 j (e ▸ hb)
        have htl : (arr.toList.take o.size).length = o.size := by rw [List.length_take, Array.length_toList]; omega
        by_cases hroom : o.size + s.size ≤ cap
        · have hcs : cap * 1 ≤ X.room β := by rw [Nat.zero_add] at hrm; exact hrm
          have hpos : 0 < X.room β := by omega
          obtain ⟨ar2, tt2, zz2, q1, q2⟩ := M.rm β hpos
          rw [g3] at q1
          injection q1 with q1
          injection q1 with q1 q1t
          subst q1
          have hfit2 : o.size + s.size ≤ arr.size := by omega
          have hrun := run_appS_into (P := P) (ty := ty) ht hu hi hs1 g3 s hroom hfit2
          have hsz' : (arr.toList.take o.size ++ Lib.strCells s ++ arr.toList.drop (o.size + s.size)).toArray.size = arr.size := by
            simp only [List.size_toArray, List.length_append, List.length_drop, Array.length_toList, htl, Lib.strCells_length]
            omega
          have Md := Mk.deadWrite g2 g3 hsz' g6 hlocs hown
          have hheap := setRow_heap w β arr (arr.toList.take o.size ++ Lib.strCells s ++ arr.toList.drop (o.size + s.size)).toArray e _ g3
          have hbyt : BlkIs (X.adopt { m with hp := m.hp.set j ⟨false, [.dead]⟩ }.hp.length β (X.room β)) (w.setRow β (arr.toList.take o.size ++ Lib.strCells s ++ arr.toList.drop (o.size + s.size)).toArray) β ⟨false, [.byt e (o ++ s)]⟩ := by
            refine .byt rfl hheap (by rw [app_size, hsz']; exact hfit2) ?_ rfl fun q => g6 q
            rw [List.toList_toArray, List.take_left' (by rw [List.length_append, htl, Lib.strCells_length, app_size]), g4, bytV_eq, strCells_app]
          obtain ⟨A, hle⟩ := Md.adoptB (β := β) (R := X.room β) g2 hlocs hown hheap hbyt (Nat.le_refl _) (by rw [hsz']; exact q2)
          simp only [List.length_set] at A hle
          refine ⟨_, _, _, hrun, hle, ?_, A⟩
          rw [app_size]
          refine .lsl ?_ (fun _ => by rw [Nat.zero_mul]) hroom hcap ?_
          · simp [Mem.adopt]
          · simp only [Mem.adopt, if_true, Nat.zero_add]
            exact hcs
        · have hxs : ∀ q x, (arr.toList.take o.size)[q]? = some x → w.cell? ((⟨β, 0, none⟩ : Addr).add q) = some x := fun q x hu => by
            rw [add_none, Nat.zero_add]
            rw [List.getElem?_take] at hu
            split at hu
            · exact cell_of_heap g3 (by simpa using hu)
            · cases hu
          have hg : cap < o.size + s.size := by omega
          have hr := Lib.run_append_grow_string (P := P) w t u ty e i _ ht hu hi hz ⟨β, 0, none⟩ o.size cap (arr.toList.take o.size) (by rw [htl, hs1, Nat.mul_one]) hxs s hg (by unfold maxLen at hmax; omega) (growslice_fits hg (by rw [hb1, Nat.mul_one]; exact hlen))
          rw [g4] at hr
          have hge := grownCap_ge w (o.size + s.size) cap e
          have hszz : ((Lib.strCells (o ++ s)).toArray ++ Builtin.zeroCells (Value.int .u8 0).cells (grownCap w (o.size + s.size) cap e - (o.size + s.size))).size = grownCap w (o.size + s.size) cap e := by
            simp only [Array.size_append, List.size_toArray, size_zeros, Lib.strCells_length, app_size]
            simp [Value.cells]
            omega
          obtain ⟨A, hle⟩ := Mk.newByt (e := e) (o := o ++ s) (R := grownCap w (o.size + s.size) cap e) (by rw [hszz]; exact Nat.le_refl _) (rest := Builtin.zeroCells (Value.int .u8 0).cells (grownCap w (o.size + s.size) cap e - (o.size + s.size)))
          simp only [List.length_set] at A hle
          refine ⟨.slice (some ⟨w.heap.size, 0, none⟩) (o.size + s.size) (grownCap w (o.size + s.size) cap e), _, _, ?_, hle, ?_, A⟩
          · rw [hr, strCells_app]
            congr 4
            simp
          · rw [app_size]
            refine .lsl ?_ (fun _ => by rw [Nat.zero_mul]) hge (grownCap_le_maxLen w (o.size + s.size) cap e hmax) ?_
            · simp [Mem.adopt]
            · simp only [Mem.adopt, if_true, Nat.zero_add, Nat.mul_one]
              exact Nat.le_refl _
/-! ### what that leaves of the memory -/
theorem apS_bufIs {e : TypeId} {c : AV} {o s : ByteArray} (h : BufIs e m c o) : BufIs e (apS e m c o s).2 (apS e m c o s).1 (o ++ s) := by
  unfold apS
  by_cases h0 : s.size = 0
  · rw [if_pos h0, app_none h0]
    exact h
  · rw [if_neg h0]
    have hp : 0 < (o ++ s).size := by rw [app_size]; omega
    rcases h with ⟨_, rfl⟩ | ⟨j, rfl, hb, _⟩
    · exact Or.inr ⟨_, rfl, by simp, hp⟩
    · refine Or.inr ⟨_, rfl, ?_, hp⟩
      show (m.hp.set j ⟨false, [.dead]⟩ ++ [_])[m.hp.length]? = _
      rw [List.getElem?_append_right (by rw [List.length_set]; exact Nat.le_refl _), List.length_set]
      simp
theorem apS_hw {e : TypeId} {c : AV} {o s : ByteArray} (h : BufIs e m c o) : (apS e m c o s).2.hw = m.hw := by
  unfold apS
  by_cases h0 : s.size = 0
  · rw [if_pos h0]
  · rw [if_neg h0]
    rcases h with ⟨_, rfl⟩ | ⟨j, rfl, hb, _⟩ <;> rfl
theorem apS_len {e : TypeId} {c : AV} {o s : ByteArray} (h : BufIs e m c o) : m.hp.length ≤ (apS e m c o s).2.hp.length := by
  unfold apS
  by_cases h0 : s.size = 0
  · rw [if_pos h0]; exact Nat.le_refl _
  · rw [if_neg h0]
    rcases h with ⟨_, rfl⟩ | ⟨j, rfl, hb, _⟩ <;> simp
theorem apS_old {e : TypeId} {c : AV} {o s : ByteArray} (h : BufIs e m c o) {i : Nat} {blk : Blk} (hi : m.hp[i]? = some blk) (hne : ∀ n, c ≠ .lsl i 0 n 1) : (apS e m c o s).2.hp[i]? = some blk := by
  have hl := (List.getElem?_eq_some_iff.1 hi).1
  unfold apS
  by_cases h0 : s.size = 0
  · rw [if_pos h0]; exact hi
  · rw [if_neg h0]
    rcases h with ⟨_, rfl⟩ | ⟨j, rfl, hb, _⟩
    · show (m.hp ++ [_])[i]? = _
      rw [List.getElem?_append_left hl]
      exact hi
    · have hij : j ≠ i := fun e => hne _ (by rw [e])
      show (m.hp.set j ⟨false, [.dead]⟩ ++ [_])[i]? = _
      rw [List.getElem?_append_left (by rw [List.length_set]; exact hl), List.getElem?_set_ne hij]
      exact hi
theorem apS_at {e : TypeId} {c : AV} {o s : ByteArray} (h : BufIs e m c o) {j n : Nat} (he : (apS e m c o s).1 = .lsl j 0 n 1) : (∃ n', c = .lsl j 0 n' 1) ∨ m.hp.length ≤ j := by
  unfold apS at he
  by_cases h0 : s.size = 0
  · rw [if_pos h0] at he
    exact Or.inl ⟨_, he⟩
  · rw [if_neg h0] at he
    rcases h with ⟨_, rfl⟩ | ⟨k, rfl, hb, _⟩
    · dsimp only at he
      injection he with he
      exact Or.inr (by omega)
    · dsimp only at he
      injection he with he
      exact Or.inr (by omega)
theorem lowB_app {i j : Nat} {nb : Blk} (hn : lows i j nb.cs = true) : ∀ {l : List Blk}, lowB i j l = true → lowB i j (l ++ [nb]) = true
  | [], _ => by simp [lowB, hn]
  | x :: r, h => by
    simp only [lowB, Bool.and_eq_true] at h
    simp only [List.cons_append, lowB, h.1, lowB_app hn h.2, Bool.and_self]
theorem lowB_setb {i j : Nat} {nb : Blk} (hn : lows i j nb.cs = true) : ∀ {l : List Blk} (k : Nat), lowB i j l = true → lowB i j (l.set k nb) = true
  | [], k, _ => by simp [lowB]
  | x :: r, 0, h => by
    simp only [lowB, Bool.and_eq_true] at h
    simp only [List.set_cons_zero, lowB, hn, h.2, Bool.and_self]
  | x :: r, k + 1, h => by
    simp only [lowB, Bool.and_eq_true] at h
    simp only [List.set_cons_succ, lowB, h.1, lowB_setb hn k h.2, Bool.and_self]
mutual
theorem low_up {i j i' j' : Nat} (hi : i ≤ i') (hj : j ≤ j') : ∀ {c : AV}, low i j c = true → low i' j' c = true
  | .own k _ _, h => by simp only [low, Nat.blt_eq] at *; omega
  | .ptr b _, h => by simp only [low, Nat.blt_eq] at *; omega
  | .tup vs, h => by simp only [low] at *; exact lows_up hi hj h
  | .fn _ a b, h => by simp only [low, Bool.and_eq_true] at *; exact ⟨lows_up hi hj h.1, lows_up hi hj h.2⟩
  | .c _, h => rfl
  | .agg _, h => rfl
  | .cptr _, h => rfl
  | .lsl b _ _ _, h => by simp only [low, Nat.blt_eq] at *; omega
  | .mapp b, h => by simp only [low, Nat.blt_eq] at *; omega
  | .ifc _ v, h => by simp only [low] at *; exact low_up hi hj h
  | .strc vs, h => by simp only [low] at *; exact lows_up hi hj h
  | .ent _, h => rfl
  | .bld _ _ c, h => by simp only [low] at *; exact low_up hi hj h
  | .byt _ _, h => rfl
  | .dead, h => rfl
theorem lows_up {i j i' j' : Nat} (hi : i ≤ i') (hj : j ≤ j') : ∀ {cs : List AV}, lows i j cs = true → lows i' j' cs = true
  | [], h => rfl
  | c :: r, h => by simp only [lows, Bool.and_eq_true] at *; exact ⟨low_up hi hj h.1, lows_up hi hj h.2⟩
end
theorem lowB_up {i j i' j' : Nat} (hi : i ≤ i') (hj : j ≤ j') : ∀ {bs : List Blk}, lowB i j bs = true → lowB i' j' bs = true
  | [], h => rfl
  | c :: r, h => by simp only [lowB, Bool.and_eq_true] at *; exact ⟨lows_up hi hj h.1, lowB_up hi hj h.2⟩
theorem apS_wf {e : TypeId} {c : AV} {o s : ByteArray} (h : BufIs e m c o) (hW : lowB m.hp.length m.hw.length m.hp = true) : lowB (apS e m c o s).2.hp.length (apS e m c o s).2.hw.length (apS e m c o s).2.hp = true := by
  have hlen := apS_len (s := s) h
  rw [apS_hw h]
  have hW2 := lowB_up hlen (Nat.le_refl m.hw.length) hW
  revert hW2
  unfold apS
  by_cases h0 : s.size = 0
  · rw [if_pos h0]; exact id
  · rw [if_neg h0]
    rcases h with ⟨_, rfl⟩ | ⟨j, rfl, hb, _⟩
    · exact fun hW2 => lowB_app rfl hW2
    · exact fun hW2 => lowB_app rfl (lowB_setb rfl _ hW2)
/-! ### a block that is a Builder, in the world -/
theorem MR.bld (M : MR X W0 m w) {b : Nat} {T : TypeId} {u : Bool} {c : AV} (hb : m.hp[b]? = some ⟨false, [.bld T u c]⟩) :
    ∃ β v, X.loc b = some β ∧ W0.heap.size ≤ β ∧ w.heap[β]? = some (.cells #[bptr u β, v] T (0, 0)) ∧ Rep X c v ∧ ∀ o, X.cell β o = none := by
  obtain ⟨β, h1, h2, h3, hB⟩ := M.locs b _ hb
  cases hB with
  | dead h => simp at h
  | ent h => simp at h
  | byt h => simp at h
  | bld h g1 g2 g3 g4 =>
    simp only [List.cons.injEq, AV.bld.injEq, and_true] at h
    obtain ⟨rfl, rfl, rfl⟩ := h
    exact ⟨β, _, h1, h2, g1, g2, g4⟩
  | cells _ _ hr => exact (reps_no hr (fun x hx => by cases hx)).elim
theorem bld_alive {T : TypeId} {u : Bool} {c : AV} : ¬ (⟨false, [.bld T u c]⟩ : Blk).isDead := fun e => by simp [Blk.isDead] at e
theorem MR.setBld (M : MR X W0 m w) {b β : Nat} {T : TypeId} {u u' : Bool} {c c' : AV} {v' : Value} (hb : m.hp[b]? = some ⟨false, [.bld T u c]⟩) (hβ : X.loc b = some β)
    (hw' : w'.heap[β]? = some (.cells #[bptr u' β, v'] T (0, 0))) (hr : Rep X c' v') (hoth : ∀ g, g ≠ β → w'.heap[g]? = w.heap[g]?) (hs : w'.heap.size = w.heap.size) (ho : w'.os = w.os ∧ w'.tape = w.tape ∧ w'.output = w.output) :
    MR X W0 { m with hp := m.hp.set b ⟨false, [.bld T u' c']⟩ } w' := by
  obtain ⟨β', v, g1, g2, g3, g4, g5⟩ := M.bld hb
  rw [hβ] at g1
  injection g1 with g1
  subst g1
  refine M.setBlk hβ hb bld_alive g5 (Or.inr ⟨w', rfl, ho⟩) hs hoth (.bld rfl hw' hr rfl g5) (M.below.trans ⟨ho.1, ho.2.1, ho.2.2, by rw [hs]; exact Nat.le_refl _, fun g hg => hoth g (by omega)⟩) (fun arr t z h => ?_)
  rw [g3] at h
  injection h with h
  injection h with h1 h2 h3
  subst h1
  exact ⟨_, _, _, hw', by simp⟩
theorem setCell_other (w : World) (β o : Nat) (v : Value) : ∀ g, g ≠ β → (w.setCell ⟨β, o, none⟩ v).heap[g]? = w.heap[g]? := fun g hg => Below.heap_setCell w ⟨β, o, none⟩ v g hg
theorem setCell_size (w : World) (β o : Nat) (v : Value) : (w.setCell ⟨β, o, none⟩ v).heap.size = w.heap.size := by simp [World.setCell]
theorem setCell0 {β : Nat} {p v q : Value} {T : TypeId} (h : w.heap[β]? = some (.cells #[p, v] T (0, 0))) : (w.setCell ⟨β, 0, none⟩ q).heap[β]? = some (.cells #[q, v] T (0, 0)) := by
  simp [World.setCell, Array.getElem?_modify, h]
theorem setCell1 {β : Nat} {p v q : Value} {T : TypeId} (h : w.heap[β]? = some (.cells #[p, v] T (0, 0))) : (w.setCell ⟨β, 1, none⟩ q).heap[β]? = some (.cells #[p, q] T (0, 0)) := by
  simp [World.setCell, Array.getElem?_modify, h]
theorem bufIs_set {b : Nat} {T e : TypeId} {u : Bool} {c c' : AV} {o : ByteArray} {nb : Blk} (hb : m.hp[b]? = some ⟨false, [.bld T u c']⟩) (h : BufIs e m c o) : BufIs e { m with hp := m.hp.set b nb } c o := by
  rcases h with h | ⟨j, h1, h2, h3⟩
  · exact Or.inl h
  · refine Or.inr ⟨j, h1, ?_, h3⟩
    have hj : b ≠ j := fun e => by
      subst e
      rw [hb] at h2
      simp at h2
    show (m.hp.set b nb)[j]? = _
    rw [List.getElem?_set_ne hj]
    exact h2
theorem bufIs_ne {b : Nat} {T e : TypeId} {u : Bool} {c c' : AV} {o : ByteArray} (hb : m.hp[b]? = some ⟨false, [.bld T u c']⟩) (h : BufIs e m c o) : ∀ n, c ≠ .lsl b 0 n 1 := fun n e => by
  rcases h with ⟨_, h⟩ | ⟨j, h, h2, h3⟩
  · rw [h] at e; cases e
  · rw [h] at e
    injection e with e
    subst e
    rw [hb] at h2
    simp at h2
theorem MR.deadFreeze (M : MR X W0 m w) {β n : Nat} {arr : Array Value} {t : TypeId} {z z' : Nat × Nat} (hW : W0.heap.size ≤ β) (hw : w.heap[β]? = some (.cells arr t z)) (hcell : ∀ o, X.cell β o = none) (hloc : ∀ i bi, X.loc i = some β → m.hp[i]? = some bi → bi.isDead) (hown : ∀ k T, X.own k = some T → T.g ≠ β)
    (hw' : w'.heap[β]? = some (.cells arr t z')) (hoth : ∀ g, g ≠ β → w'.heap[g]? = w.heap[g]?) (hs : w'.heap.size = w.heap.size) (ho : w'.os = w.os ∧ w'.tape = w.tape ∧ w'.output = w.output) : MR X W0 m w' := by
  refine ⟨M.below.trans ⟨ho.1, ho.2.1, ho.2.2, by rw [hs]; exact Nat.le_refl _, fun g hg => hoth g (by omega)⟩, fun g o x hx => ?_, M.ldom, fun i blk h => ?_, M.inj, M.odom, fun k r hk => ?_, M.oinj, M.gl, fun γ hγ => ?_⟩
  · have hg : g ≠ β := fun e => by subst e; rw [hcell] at hx; cases hx
    rw [World.cell?_of_block (w := w) (hoth g hg)]
    exact M.cell g o x hx
  · obtain ⟨γ, k1, k2, k3, k4⟩ := M.locs i blk h
    refine ⟨γ, k1, k2, by rw [hs]; exact k3, k4.move (Mem.Le.refl W0.heap.size X) (fun hd => hoth γ (fun e => hd (hloc i blk (e ▸ k1) h))) (fun _ h => h)⟩
  · obtain ⟨T, k1, k2, k3, k4, k5, k6, ⟨cur, k7, k8⟩, k9, k10⟩ := M.toks k r hk
    exact ⟨T, k1, k2, k3, k4, k5, k6, ⟨cur, by rw [hoth T.g (hown k T k1)]; exact k7, k8⟩, k9, k10⟩
  · obtain ⟨ar, tt, zz, q1, q2⟩ := M.rm γ hγ
    by_cases hb : γ = β
    · subst hb
      rw [hw] at q1
      injection q1 with q1
      injection q1 with q1 q3 q4
      subst q1
      exact ⟨_, _, _, hw', q2⟩
    · exact ⟨ar, tt, zz, by rw [hoth γ hb]; exact q1, q2⟩
theorem wpList_appendS {ops : Array Oper} {rest : List Oper} {o : Oper} {a : Act} {Q : Exit → Act → World → Prop} (hgd : o.guard = none) (sl x : Operand) (t u : TypeId)
    (ho : o.op = .call { callee := .builtin .append, args := #[sl, x], argTypes := #[t, u] }) {v V : Value} {s : ByteArray} {w w2 : World} (hs : a.eval sl = v) (hx : a.eval x = .string s)
    (hr : (Builtin.append_ #[t, u] o.type #[v, .string s]).run P w = .ok V w2) (h : wpList P ops Q rest (a.put o.dst V) w2) : wpList P ops Q (o :: rest) a w := by
  refine wpList_plain hgd fun K hK => ?_
  unfold Oper.wp execOp
  simp only [ho, resolve, invoke, builtin, Sem.run_bind, Sem.run_pure, Result.andThen_ok, List.map_toArray, List.map_cons, List.map_nil, hs, hx, hr]
  exact hK _ _ h
end Go.Vs.Ab

/-
  Chapter 11: a page that grows: strings.Builder's methods where the Builder is the first field of a struct.
-/
namespace Go.Proofs.YtaeehadibckcjaaDoor
open Go.RowKit Go.Vs Go.Vs.Ab
set_option maxRecDepth 100000
set_option maxHeartbeats 4000000
theorem sizeBd : (Tryd.prog.info? 79).map (·.size) = some 2 := by kernel_rfl
theorem liesBd : liesAt Tryd.prog Tryd.prog.depth 81 (2 / Tryd.prog.cellsOf 81) 0 79 1 = true := by kernel_rfl
theorem infoBy : (Tryd.prog.info? 5).map (fun i => (i.zero, i.size, i.bytes)) = some (some (.int .u8 0), 1, 1) := by kernel_rfl
theorem cc_used (β : Nat) (w : World) (h0 : w.cell? ⟨β, 0, none⟩ = some (.pointer (some ⟨β, 0, none⟩))) :
    Calls Tryd.prog 83 #[.pointer (some ⟨β, 0, none⟩)] w fun e w' => e = .returned (.tuple #[]) ∧ w' = w := by
  obtain ⟨j, hj, _⟩ := Option.map_eq_some_iff.1 sizeBd
  go_enter Tryd.func83, Tryd.ntmps83
  go_wp2
  rw [Lib.run_neq_ptr_same w _ Tryd.underlying76 hj]
  go_wp2
  go_end0
  exact ⟨rfl, rfl⟩
theorem cc_fresh (β : Nat) (w : World) (h0 : w.cell? ⟨β, 0, none⟩ = some (.pointer none)) (hsh : w.shape? β = some (81, 2)) (hfz : w.frozen? ⟨β, 0, none⟩ = false) :
    Calls Tryd.prog 83 #[.pointer (some ⟨β, 0, none⟩)] w fun e w' => e = .returned (.tuple #[]) ∧ w' = w.setCell ⟨β, 0, none⟩ (.pointer (some ⟨β, 0, none⟩)) := by
  obtain ⟨j, hj, hjs⟩ := Option.map_eq_some_iff.1 sizeBd
  go_enter Tryd.func83, Tryd.ntmps83
  go_wp2
  rw [Lib.run_to_unsafe w ⟨β, 0, none⟩ Tryd.underlying76 Tryd.underlying131 hj (by rw [hjs]; decide) hsh (Nat.zero_lt_succ 1)]
  simp only [Result.andThen]
  rw [Oper.upon_value]
  go_wp2
  rw [run_callFunc_extern Tryd.func94 (by kernel_rfl) (by kernel_rfl) (by kernel_rfl) (e := Extern.AbiNoEscape.same) (by kernel_rfl)]
  rw [Lib.run_noEscape]
  simp only [Result.andThen]
  rw [Oper.upon_value]
  go_wp2
  rw [Lib.run_from_unsafe w ⟨β, 0, none⟩ Tryd.underlying131 Tryd.underlying76 hj hsh liesBd]
  simp only [Result.andThen]
  rw [Oper.upon_value]
  go_wp2
  go_end0
  exact ⟨rfl, rfl⟩
theorem rep_tup2' {X : Mem} {a b : CV} {x y : Value} (h1 : RepC X.cell a x) (h2 : RepC X.cell b y) : Rep X (.tup [.c a, .c b]) (.tuple #[x, y]) := by
  refine .tup rfl fun i c v e1 e2 => ?_
  match i with
  | 0 => simp at e1 e2; subst e1 e2; exact .c h1
  | 1 => simp at e1 e2; subst e1 e2; exact .c h2
  | i + 2 => simp at e1
section
variable {X : Mem} {W0 w : World} {m : Mm} {b : Nat} {u : Bool} {c : AV}
theorem cc_any (M : MR X W0 m w) (hb : m.hp[b]? = some ⟨false, [.bld 81 u c]⟩) {β : Nat} (hβ : X.loc b = some β) :
    Calls Tryd.prog 83 #[.pointer (some ⟨β, 0, none⟩)] w fun e w' => e = .returned (.tuple #[]) ∧ MR X W0 { m with hp := m.hp.set b ⟨false, [.bld 81 true c]⟩ } w' := by
  obtain ⟨β', v, g1, g2, g3, g4, g5⟩ := M.bld hb
  rw [hβ] at g1
  injection g1 with g1
  subst g1
  have hsh : w.shape? β = some (81, 2) := by simp [World.shape?, g3]
  have hfz : w.frozen? ⟨β, 0, none⟩ = false := by simp [World.frozen?, g3]
  cases u with
  | true =>
    refine (cc_used β w (cell_of_heap g3 rfl)).mono ?_
    rintro e w' ⟨rfl, rfl⟩
    exact ⟨rfl, M.setBld hb hβ g3 g4 (fun _ _ => rfl) rfl ⟨rfl, rfl, rfl⟩⟩
  | false =>
    refine (cc_fresh β w (cell_of_heap g3 rfl) hsh hfz).mono ?_
    rintro e w' ⟨rfl, rfl⟩
    exact ⟨rfl, M.setBld hb hβ (u' := true) (setCell0 g3) g4 (setCell_other w β 0 _) (setCell_size w β 0 _) ⟨rfl, rfl, rfl⟩⟩
end
def wsM (m : Mm) (b : Nat) (c : AV) (o s : ByteArray) : Mm :=
  { (apS 5 { m with hp := m.hp.set b ⟨false, [.bld 81 true c]⟩ } c o s).2 with hp := (apS 5 { m with hp := m.hp.set b ⟨false, [.bld 81 true c]⟩ } c o s).2.hp.set b ⟨false, [.bld 81 true (apS 5 { m with hp := m.hp.set b ⟨false, [.bld 81 true c]⟩ } c o s).1]⟩ }
theorem ws_gives {m : Mm} {b : Nat} {u : Bool} {c : AV} {o : ByteArray} (hb : m.hp[b]? = some ⟨false, [.bld 81 u c]⟩) (hc : BufIs 5 m c o) (s : ByteArray) (hlen : o.size + s.size ≤ 140737488355328) :
    GivesW Tryd.prog 69 [.ptr b 0, sA s] m (.tup [iA (s.size : Nat), .c (.v .nilIface)]) (wsM m b c o s) := by
  refine ⟨callable_of Tryd.func69 (by kernel_rfl), fun X W0 w vs M hr => ?_⟩
  obtain ⟨β, v, g1, g2, g3, g4, g5⟩ := M.bld hb
  have hvs : vs = #[.pointer (some ⟨β, 0, none⟩), .string s] := by
    obtain ⟨x, y, hv, r1, r2⟩ := reps2 hr
    cases r1 with
    | ptr r1 =>
    rw [g1] at r1
    injection r1 with r1
    subst r1
    cases r2 with
    | c r2 =>
    cases r2
    exact Array.ext' hv
  subst hvs
  obtain ⟨i0, hi, hz0, hz1, hz2⟩ := info_parts infoBy
  have e83 : ∀ args w, (callFunc 83 args).run Tryd.prog w = .ok (.enter 83 args) w := enters_of Tryd.func83 (by kernel_rfl) rfl
  have hblt := (List.getElem?_eq_some_iff.1 hb).1
  obtain ⟨m1, hm1⟩ : ∃ m1 : Mm, m1 = { m with hp := m.hp.set b ⟨false, [.bld 81 true c]⟩ } := ⟨_, rfl⟩
  have hb1 : m1.hp[b]? = some ⟨false, [.bld 81 true c]⟩ := by rw [hm1]; exact List.getElem?_set_self hblt
  have hc1 : BufIs 5 m1 c o := by rw [hm1]; exact bufIs_set hb hc
  have hcc := cc_any M hb g1
  rw [← hm1] at hcc
  have HM1 := Lib.hid hm1
  clear hm1
  have HCC := Lib.hid hcc
  clear hcc
  go_enter Tryd.func69, Tryd.ntmps69
  go_wp2_with (go_at_call 83; refine HCC.out.mono ?_)
  intro e w1 he M1
  subst he
  dsimp only
  obtain ⟨β', v1, k1, k2, k3, k4, k5⟩ := M1.bld hb1
  rw [g1] at k1
  injection k1 with k1
  subst k1
  obtain ⟨V, X2, w2, happ, hle, hrep, M2⟩ := appendS_ok (ty := 77) M1 Tryd.underlying77 Tryd.underlying9 hi hz0 hz1 hz2 hc1 k4 hlen
  have hb2 : (apS 5 m1 c o s).2.hp[b]? = some ⟨false, [.bld 81 true c]⟩ := apS_old hc1 hb1 (bufIs_ne hb1 hc1)
  obtain ⟨β', v2, q1, q2, q3, q4, q5⟩ := M2.bld hb2
  rw [hle.loc _ _ g1] at q1
  injection q1 with q1
  subst q1
  have c1 : w1.cell? ⟨β, 1, none⟩ = some v1 := cell_of_heap k3 rfl
  have d1 : w2.cell? ⟨β, 1, none⟩ = some v2 := cell_of_heap q3 rfl
  have f1 : w2.frozen? ⟨β, 1, none⟩ = false := by simp [World.frozen?, q3]
  have hV : ∃ a n cap, V = .slice a n cap := by
    rcases apS_bufIs (s := s) hc1 with ⟨_, h⟩ | ⟨j, h, _, _⟩
    · rw [h] at hrep
      cases hrep with
      | c hrep => cases hrep; exact ⟨_, _, _, rfl⟩
    · rw [h] at hrep
      cases hrep
      exact ⟨_, _, _, rfl⟩
  obtain ⟨a0, n0, cap0, rfl⟩ := hV
  have M3 := M2.setBld (u' := true) hb2 (hle.loc _ _ g1) (setCell1 (q := .slice a0 n0 cap0) q3) hrep (setCell_other w2 β 1 _) (setCell_size w2 β 1 _) ⟨rfl, rfl, rfl⟩
  have HAPP := Lib.hid happ
  have HM3 := Lib.hid M3
  have HLE := Lib.hid hle
  clear M3 M2 M1 M hle hrep q3 q4 q5 k3 k4 k5 g3 g4 g5 hc1 hb1 hb2 hc hb HCC happ
  go_wp2_with (at_builtin; refine wpList_appendS (v := v1) (s := s) rfl (.tmp 12) (.tmp 13) 77 9 rfl rfl rfl HAPP.out ?_)
  go_ret2
  have hm1 := HM1.out
  subst hm1
  exact ⟨_, X2, rfl, HLE.out, rep_tup2' (.v rfl) (.v rfl), HM3.out⟩
end Go.Proofs.YtaeehadibckcjaaDoor

/-
  Chapter 11: policies as records, and whether they are light.
-/
namespace Go.Proofs.YtaeehadibckcjaaDoor
open Go.Vs Go.Vs.Ab
set_option maxRecDepth 100000
set_option maxHeartbeats 4000000
structure Prd where
  name : ByteArray
  ar : Int
structure Clr where
  who : ByteArray
  ex : Bool
  reads : List ByteArray
structure Rul where
  head : Atm
  ex : Bool
  body : List Atm
structure Grt where
  tw : ByteArray
  head : Atm
  ex : Bool
  body : List Atm
structure Pol where
  e1 : Bool
  prin : List ByteArray
  e2 : Bool
  preds : List Prd
  e3 : Bool
  clears : List Clr
  quota : Int
  budget : Int
  e4 : Bool
  rules : List Rul
  e5 : Bool
  grants : List Grt
abbrev slC {T : Type} (enc : T → List CV) (ex : Bool) (l : List T) : CV := .sl ex l.length (l.flatMap enc)
def prC (p : Prd) : List CV := [.v (.string p.name), .v (.int .i64 p.ar)]
def clC (c : Clr) : List CV := [.v (.string c.who), slC stC c.ex c.reads]
def ruC (r : Rul) : List CV := [.v (.string r.head.says), .v (.string r.head.pred), .v (.int .i64 r.head.n), .v (.bool r.head.a0.v), .v (.string r.head.a0.name), .v (.bool r.head.a1.v), .v (.string r.head.a1.name), .v (.bool r.head.a2.v), .v (.string r.head.a2.name), .v (.bool r.head.a3.v), .v (.string r.head.a3.name)] ++ [slC atC r.ex r.body]
def grC (g : Grt) : List CV := .v (.string g.tw) :: ([.v (.string g.head.says), .v (.string g.head.pred), .v (.int .i64 g.head.n), .v (.bool g.head.a0.v), .v (.string g.head.a0.name), .v (.bool g.head.a1.v), .v (.string g.head.a1.name), .v (.bool g.head.a2.v), .v (.string g.head.a2.name), .v (.bool g.head.a3.v), .v (.string g.head.a3.name)] ++ [slC atC g.ex g.body])
def poC (p : Pol) : List CV := [slC stC p.e1 p.prin, slC prC p.e2 p.preds, slC clC p.e3 p.clears, .v (.int .i64 p.quota), .v (.int .i64 p.budget), slC ruC p.e4 p.rules, slC grC p.e5 p.grants]
abbrev ruA (r : Rul) : AV := .agg (ruC r)
abbrev grA (g : Grt) : AV := .agg (grC g)
abbrev clA (c : Clr) : AV := .agg (clC c)
abbrev poA (p : Pol) : AV := .agg (poC p)
attribute [go_sem] prC clC ruC grC poC
theorem idxP {ex : Bool} {l : List Prd} {k : Nat} (h : k < l.length) : aIndexAddr Tryd.prog 24 (.c (slC prC ex l)) (.c (.v (.int .i64 (k : Int)))) = some (.cptr (prC l[k] ++ (l.drop (k + 1)).flatMap prC)) :=
  idx_R prC 2 (fun _ => rfl) Tryd.underlying24 sz69 (by decide) h
theorem idxC {ex : Bool} {l : List Clr} {k : Nat} (h : k < l.length) : aIndexAddr Tryd.prog 25 (.c (slC clC ex l)) (.c (.v (.int .i64 (k : Int)))) = some (.cptr (clC l[k] ++ (l.drop (k + 1)).flatMap clC)) :=
  idx_R clC 2 (fun _ => rfl) Tryd.underlying25 sz54 (by decide) h
theorem idxRu {ex : Bool} {l : List Rul} {k : Nat} (h : k < l.length) : aIndexAddr Tryd.prog 26 (.c (slC ruC ex l)) (.c (.v (.int .i64 (k : Int)))) = some (.cptr (ruC l[k] ++ (l.drop (k + 1)).flatMap ruC)) :=
  idx_R ruC 12 (fun _ => rfl) Tryd.underlying26 sz45 (by decide) h
theorem idxGr {ex : Bool} {l : List Grt} {k : Nat} (h : k < l.length) : aIndexAddr Tryd.prog 27 (.c (slC grC ex l)) (.c (.v (.int .i64 (k : Int)))) = some (.cptr (grC l[k] ++ (l.drop (k + 1)).flatMap grC)) :=
  idx_R grC 13 (fun _ => rfl) Tryd.underlying27 sz48 (by decide) h
/-! ### light policies -/
def gPr (p : Prd) : Bool := !decide ((p.name.size : Int) > 300)
def gCl (c : Clr) : Bool := !decide ((c.who.size : Int) > 300) && lightTx c.reads 40 3000
def gRu (r : Rul) : Bool := lightA r.head && lightAs r.body 9
def gGr (g : Grt) : Bool := !decide ((g.tw.size : Int) > 300) && (lightA g.head && lightAs g.body 9)
def lightP (p : Pol) : Bool := lightTx p.prin 70 6000 && !decide ((p.preds.length : Int) > 70) && !decide ((p.clears.length : Int) > 70) && !decide ((p.rules.length : Int) > 70) && !decide ((p.grants.length : Int) > 70)
  && p.preds.all gPr && p.clears.all gCl && p.rules.all gRu && p.grants.all gGr
theorem all_bad {T : Type} {g : T → Bool} {l : List T} {i : Nat} (hi : i < l.length) (h : g l[i] = false) : l.all g = false := by
  rw [List.all_eq_false]
  exact ⟨l[i], List.getElem_mem hi, by simp [h]⟩
theorem all_ok {T : Type} {g : T → Bool} {l : List T} (h : ∀ (j : Nat) (hj : j < l.length), g l[j] = true) : l.all g = true := by
  rw [List.all_eq_true]
  intro x hx
  obtain ⟨j, hj, rfl⟩ := List.mem_iff_getElem.1 hx
  exact h j hj
theorem next_ok {T : Type} {g : T → Bool} {l : List T} {i : Nat} (h : ∀ (j : Nat) (hj : j < l.length), j < i → g l[j] = true) (hi : i < l.length) (hg : g l[i] = true) : ∀ (j : Nat) (hj : j < l.length), j < i + 1 → g l[j] = true := fun j hj hji => by
  rcases Nat.lt_or_ge j i with hl | hl
  · exact h j hj hl
  · have : j = i := by omega
    subst this
    exact hg
theorem lightP_does (p : Pol) : Does Tryd.prog 12 [poA p] (fun m => (bA (lightP p), m)) := by
  have cT := lightTexts_does p.prin 70 6000 p.e1 (by decide)
  cases hT : lightTx p.prin 70 6000 with
  | false =>
    have hr : lightP p = false := by simp [lightP, hT]
    rw [hr]
    rw [hT] at cT
    refine does_of' Tryd.func12 rfl (by kernel_rfl) rfl Tryd.ntmps12 rfl rfl fun Q hQ => ?_
    repeat (first
        | refine tr_seq_k fun _ _ => ?_
        | (refine tr_region ?_; simp only [go_sem, List.getElem?_toArray, str_beq, reduceCtorEq, Nat.reduceEqDiff, Nat.reduceLT, Nat.reduceLeDiff, Nat.reduceAdd, Nat.reduceMul, Nat.reduceSub, Nat.reduceBEq, ↓reduceIte, bne_self_eq_false, Bool.and_false, Bool.false_and, Bool.true_or, Bool.false_or, hT])
        | (refine call_of (cT) ?_ ?_
           · first | rfl | simp only [go_sem, List.getElem?_toArray, str_beq, reduceCtorEq, Nat.reduceEqDiff, Nat.reduceLT, Nat.reduceLeDiff, Nat.reduceAdd, Nat.reduceMul, Nat.reduceSub, Nat.reduceBEq, ↓reduceIte, bne_self_eq_false, Bool.and_false, Bool.false_and, Bool.true_or, Bool.false_or, hT, shut_col]
           simp only [go_sem, List.getElem?_toArray, str_beq, reduceCtorEq, Nat.reduceEqDiff, Nat.reduceLT, Nat.reduceLeDiff, Nat.reduceAdd, Nat.reduceMul, Nat.reduceSub, Nat.reduceBEq, ↓reduceIte, bne_self_eq_false, Bool.and_false, Bool.false_and, Bool.true_or, Bool.false_or, hT])
        | refine k_of (by assumption) ?_
        | refine tr_block ?_
        | refine tr_scope ?_
        | (refine tr_skip ?_; try simp only [ex_seq, ex_block])
        | (refine tr_label ?_; try simp only [ex_seq, ex_block])
        | (refine tr_exit ?_; try simp only [ex_seq_exit, ex_block_exit, Nat.reduceEqDiff, if_true, if_false, ex_seq, ex_block, reduceCtorEq, ↓reduceIte])
        | (refine tr_ret ?_; try simp only [ex_seq_ret, ex_block_ret]))
    refine tr_cond rfl (fun ht => ?_) (fun hf => ?_)
    · repeat (first
          | refine tr_seq_k fun _ _ => ?_
          | (refine tr_region ?_; simp only [go_sem, List.getElem?_toArray, str_beq, reduceCtorEq, Nat.reduceEqDiff, Nat.reduceLT, Nat.reduceLeDiff, Nat.reduceAdd, Nat.reduceMul, Nat.reduceSub, Nat.reduceBEq, ↓reduceIte, bne_self_eq_false, Bool.and_false, Bool.false_and, Bool.true_or, Bool.false_or])
          | refine k_of (by assumption) ?_
          | refine tr_block ?_
          | refine tr_scope ?_
          | (refine tr_skip ?_; try simp only [ex_seq, ex_block])
          | (refine tr_label ?_; try simp only [ex_seq, ex_block])
          | (refine tr_exit ?_; try simp only [ex_seq_exit, ex_block_exit, Nat.reduceEqDiff, if_true, if_false, ex_seq, ex_block, reduceCtorEq, ↓reduceIte])
          | (refine tr_ret ?_; try simp only [ex_seq_ret, ex_block_ret]))
      refine (hQ _ _ [bA false] ?_ (fun m => ?_)).2 <;> simp only [go_sem, List.getElem?_toArray, str_beq, reduceCtorEq, Nat.reduceEqDiff, Nat.reduceLT, Nat.reduceLeDiff, Nat.reduceAdd, Nat.reduceMul, Nat.reduceSub, Nat.reduceBEq, ↓reduceIte, bne_self_eq_false, Bool.and_false, Bool.false_and, Bool.true_or, Bool.false_or, Tryd.f12,]
    · cases hf
  | true =>
    rw [hT] at cT
    cases d2 : decide ((p.preds.length : Int) > 70) with
    | true =>
      have hr : lightP p = false := by simp [lightP, hT, d2]
      rw [hr]
      skip
      refine does_of' Tryd.func12 rfl (by kernel_rfl) rfl Tryd.ntmps12 rfl rfl fun Q hQ => ?_
      repeat (first
          | refine tr_seq_k fun _ _ => ?_
          | (refine tr_region ?_; simp only [go_sem, List.getElem?_toArray, str_beq, reduceCtorEq, Nat.reduceEqDiff, Nat.reduceLT, Nat.reduceLeDiff, Nat.reduceAdd, Nat.reduceMul, Nat.reduceSub, Nat.reduceBEq, ↓reduceIte, bne_self_eq_false, Bool.and_false, Bool.false_and, Bool.true_or, Bool.false_or, hT, d2])
          | (refine call_of (cT) ?_ ?_
             · first | rfl | simp only [go_sem, List.getElem?_toArray, str_beq, reduceCtorEq, Nat.reduceEqDiff, Nat.reduceLT, Nat.reduceLeDiff, Nat.reduceAdd, Nat.reduceMul, Nat.reduceSub, Nat.reduceBEq, ↓reduceIte, bne_self_eq_false, Bool.and_false, Bool.false_and, Bool.true_or, Bool.false_or, hT, d2, shut_col]
             simp only [go_sem, List.getElem?_toArray, str_beq, reduceCtorEq, Nat.reduceEqDiff, Nat.reduceLT, Nat.reduceLeDiff, Nat.reduceAdd, Nat.reduceMul, Nat.reduceSub, Nat.reduceBEq, ↓reduceIte, bne_self_eq_false, Bool.and_false, Bool.false_and, Bool.true_or, Bool.false_or, hT, d2])
          | refine k_of (by assumption) ?_
          | refine tr_block ?_
          | refine tr_scope ?_
          | (refine tr_skip ?_; try simp only [ex_seq, ex_block])
          | (refine tr_label ?_; try simp only [ex_seq, ex_block])
          | (refine tr_exit ?_; try simp only [ex_seq_exit, ex_block_exit, Nat.reduceEqDiff, if_true, if_false, ex_seq, ex_block, reduceCtorEq, ↓reduceIte])
          | (refine tr_ret ?_; try simp only [ex_seq_ret, ex_block_ret]))
      refine tr_cond rfl (fun ht => ?_) (fun hf => ?_)
      · repeat (first
            | refine tr_seq_k fun _ _ => ?_
            | (refine tr_region ?_; simp only [go_sem, List.getElem?_toArray, str_beq, reduceCtorEq, Nat.reduceEqDiff, Nat.reduceLT, Nat.reduceLeDiff, Nat.reduceAdd, Nat.reduceMul, Nat.reduceSub, Nat.reduceBEq, ↓reduceIte, bne_self_eq_false, Bool.and_false, Bool.false_and, Bool.true_or, Bool.false_or])
            | refine k_of (by assumption) ?_
            | refine tr_block ?_
            | refine tr_scope ?_
            | (refine tr_skip ?_; try simp only [ex_seq, ex_block])
            | (refine tr_label ?_; try simp only [ex_seq, ex_block])
            | (refine tr_exit ?_; try simp only [ex_seq_exit, ex_block_exit, Nat.reduceEqDiff, if_true, if_false, ex_seq, ex_block, reduceCtorEq, ↓reduceIte])
            | (refine tr_ret ?_; try simp only [ex_seq_ret, ex_block_ret]))
        refine (hQ _ _ [bA false] ?_ (fun m => ?_)).2 <;> simp only [go_sem, List.getElem?_toArray, str_beq, reduceCtorEq, Nat.reduceEqDiff, Nat.reduceLT, Nat.reduceLeDiff, Nat.reduceAdd, Nat.reduceMul, Nat.reduceSub, Nat.reduceBEq, ↓reduceIte, bne_self_eq_false, Bool.and_false, Bool.false_and, Bool.true_or, Bool.false_or, Tryd.f12,]
      · cases hf
    | false =>
      cases d3 : decide ((p.clears.length : Int) > 70) with
      | true =>
        have hr : lightP p = false := by simp [lightP, hT, d2, d3]
        rw [hr]
        skip
        refine does_of' Tryd.func12 rfl (by kernel_rfl) rfl Tryd.ntmps12 rfl rfl fun Q hQ => ?_
        repeat (first
            | refine tr_seq_k fun _ _ => ?_
            | (refine tr_region ?_; simp only [go_sem, List.getElem?_toArray, str_beq, reduceCtorEq, Nat.reduceEqDiff, Nat.reduceLT, Nat.reduceLeDiff, Nat.reduceAdd, Nat.reduceMul, Nat.reduceSub, Nat.reduceBEq, ↓reduceIte, bne_self_eq_false, Bool.and_false, Bool.false_and, Bool.true_or, Bool.false_or, hT, d2, d3])
            | (refine call_of (cT) ?_ ?_
               · first | rfl | simp only [go_sem, List.getElem?_toArray, str_beq, reduceCtorEq, Nat.reduceEqDiff, Nat.reduceLT, Nat.reduceLeDiff, Nat.reduceAdd, Nat.reduceMul, Nat.reduceSub, Nat.reduceBEq, ↓reduceIte, bne_self_eq_false, Bool.and_false, Bool.false_and, Bool.true_or, Bool.false_or, hT, d2, d3, shut_col]
               simp only [go_sem, List.getElem?_toArray, str_beq, reduceCtorEq, Nat.reduceEqDiff, Nat.reduceLT, Nat.reduceLeDiff, Nat.reduceAdd, Nat.reduceMul, Nat.reduceSub, Nat.reduceBEq, ↓reduceIte, bne_self_eq_false, Bool.and_false, Bool.false_and, Bool.true_or, Bool.false_or, hT, d2, d3])
            | refine k_of (by assumption) ?_
            | refine tr_block ?_
            | refine tr_scope ?_
            | (refine tr_skip ?_; try simp only [ex_seq, ex_block])
            | (refine tr_label ?_; try simp only [ex_seq, ex_block])
            | (refine tr_exit ?_; try simp only [ex_seq_exit, ex_block_exit, Nat.reduceEqDiff, if_true, if_false, ex_seq, ex_block, reduceCtorEq, ↓reduceIte])
            | (refine tr_ret ?_; try simp only [ex_seq_ret, ex_block_ret]))
        refine tr_cond rfl (fun ht => ?_) (fun hf => ?_)
        · repeat (first
              | refine tr_seq_k fun _ _ => ?_
              | (refine tr_region ?_; simp only [go_sem, List.getElem?_toArray, str_beq, reduceCtorEq, Nat.reduceEqDiff, Nat.reduceLT, Nat.reduceLeDiff, Nat.reduceAdd, Nat.reduceMul, Nat.reduceSub, Nat.reduceBEq, ↓reduceIte, bne_self_eq_false, Bool.and_false, Bool.false_and, Bool.true_or, Bool.false_or])
              | refine k_of (by assumption) ?_
              | refine tr_block ?_
              | refine tr_scope ?_
              | (refine tr_skip ?_; try simp only [ex_seq, ex_block])
              | (refine tr_label ?_; try simp only [ex_seq, ex_block])
              | (refine tr_exit ?_; try simp only [ex_seq_exit, ex_block_exit, Nat.reduceEqDiff, if_true, if_false, ex_seq, ex_block, reduceCtorEq, ↓reduceIte])
              | (refine tr_ret ?_; try simp only [ex_seq_ret, ex_block_ret]))
          refine (hQ _ _ [bA false] ?_ (fun m => ?_)).2 <;> simp only [go_sem, List.getElem?_toArray, str_beq, reduceCtorEq, Nat.reduceEqDiff, Nat.reduceLT, Nat.reduceLeDiff, Nat.reduceAdd, Nat.reduceMul, Nat.reduceSub, Nat.reduceBEq, ↓reduceIte, bne_self_eq_false, Bool.and_false, Bool.false_and, Bool.true_or, Bool.false_or, Tryd.f12,]
        · cases hf
      | false =>
        cases d4 : decide ((p.rules.length : Int) > 70) with
        | true =>
          have hr : lightP p = false := by simp [lightP, hT, d2, d3, d4]
          rw [hr]
          skip
          refine does_of' Tryd.func12 rfl (by kernel_rfl) rfl Tryd.ntmps12 rfl rfl fun Q hQ => ?_
          repeat (first
              | refine tr_seq_k fun _ _ => ?_
              | (refine tr_region ?_; simp only [go_sem, List.getElem?_toArray, str_beq, reduceCtorEq, Nat.reduceEqDiff, Nat.reduceLT, Nat.reduceLeDiff, Nat.reduceAdd, Nat.reduceMul, Nat.reduceSub, Nat.reduceBEq, ↓reduceIte, bne_self_eq_false, Bool.and_false, Bool.false_and, Bool.true_or, Bool.false_or, hT, d2, d3, d4])
              | (refine call_of (cT) ?_ ?_
                 · first | rfl | simp only [go_sem, List.getElem?_toArray, str_beq, reduceCtorEq, Nat.reduceEqDiff, Nat.reduceLT, Nat.reduceLeDiff, Nat.reduceAdd, Nat.reduceMul, Nat.reduceSub, Nat.reduceBEq, ↓reduceIte, bne_self_eq_false, Bool.and_false, Bool.false_and, Bool.true_or, Bool.false_or, hT, d2, d3, d4, shut_col]
                 simp only [go_sem, List.getElem?_toArray, str_beq, reduceCtorEq, Nat.reduceEqDiff, Nat.reduceLT, Nat.reduceLeDiff, Nat.reduceAdd, Nat.reduceMul, Nat.reduceSub, Nat.reduceBEq, ↓reduceIte, bne_self_eq_false, Bool.and_false, Bool.false_and, Bool.true_or, Bool.false_or, hT, d2, d3, d4])
              | refine k_of (by assumption) ?_
              | refine tr_block ?_
              | refine tr_scope ?_
              | (refine tr_skip ?_; try simp only [ex_seq, ex_block])
              | (refine tr_label ?_; try simp only [ex_seq, ex_block])
              | (refine tr_exit ?_; try simp only [ex_seq_exit, ex_block_exit, Nat.reduceEqDiff, if_true, if_false, ex_seq, ex_block, reduceCtorEq, ↓reduceIte])
              | (refine tr_ret ?_; try simp only [ex_seq_ret, ex_block_ret]))
          refine tr_cond rfl (fun ht => ?_) (fun hf => ?_)
          · repeat (first
                | refine tr_seq_k fun _ _ => ?_
                | (refine tr_region ?_; simp only [go_sem, List.getElem?_toArray, str_beq, reduceCtorEq, Nat.reduceEqDiff, Nat.reduceLT, Nat.reduceLeDiff, Nat.reduceAdd, Nat.reduceMul, Nat.reduceSub, Nat.reduceBEq, ↓reduceIte, bne_self_eq_false, Bool.and_false, Bool.false_and, Bool.true_or, Bool.false_or])
                | refine k_of (by assumption) ?_
                | refine tr_block ?_
                | refine tr_scope ?_
                | (refine tr_skip ?_; try simp only [ex_seq, ex_block])
                | (refine tr_label ?_; try simp only [ex_seq, ex_block])
                | (refine tr_exit ?_; try simp only [ex_seq_exit, ex_block_exit, Nat.reduceEqDiff, if_true, if_false, ex_seq, ex_block, reduceCtorEq, ↓reduceIte])
                | (refine tr_ret ?_; try simp only [ex_seq_ret, ex_block_ret]))
            refine (hQ _ _ [bA false] ?_ (fun m => ?_)).2 <;> simp only [go_sem, List.getElem?_toArray, str_beq, reduceCtorEq, Nat.reduceEqDiff, Nat.reduceLT, Nat.reduceLeDiff, Nat.reduceAdd, Nat.reduceMul, Nat.reduceSub, Nat.reduceBEq, ↓reduceIte, bne_self_eq_false, Bool.and_false, Bool.false_and, Bool.true_or, Bool.false_or, Tryd.f12,]
          · cases hf
        | false =>
          cases d5 : decide ((p.grants.length : Int) > 70) with
          | true =>
            have hr : lightP p = false := by simp [lightP, hT, d2, d3, d4, d5]
            rw [hr]
            skip
            refine does_of' Tryd.func12 rfl (by kernel_rfl) rfl Tryd.ntmps12 rfl rfl fun Q hQ => ?_
            repeat (first
                | refine tr_seq_k fun _ _ => ?_
                | (refine tr_region ?_; simp only [go_sem, List.getElem?_toArray, str_beq, reduceCtorEq, Nat.reduceEqDiff, Nat.reduceLT, Nat.reduceLeDiff, Nat.reduceAdd, Nat.reduceMul, Nat.reduceSub, Nat.reduceBEq, ↓reduceIte, bne_self_eq_false, Bool.and_false, Bool.false_and, Bool.true_or, Bool.false_or, hT, d2, d3, d4, d5])
                | (refine call_of (cT) ?_ ?_
                   · first | rfl | simp only [go_sem, List.getElem?_toArray, str_beq, reduceCtorEq, Nat.reduceEqDiff, Nat.reduceLT, Nat.reduceLeDiff, Nat.reduceAdd, Nat.reduceMul, Nat.reduceSub, Nat.reduceBEq, ↓reduceIte, bne_self_eq_false, Bool.and_false, Bool.false_and, Bool.true_or, Bool.false_or, hT, d2, d3, d4, d5, shut_col]
                   simp only [go_sem, List.getElem?_toArray, str_beq, reduceCtorEq, Nat.reduceEqDiff, Nat.reduceLT, Nat.reduceLeDiff, Nat.reduceAdd, Nat.reduceMul, Nat.reduceSub, Nat.reduceBEq, ↓reduceIte, bne_self_eq_false, Bool.and_false, Bool.false_and, Bool.true_or, Bool.false_or, hT, d2, d3, d4, d5])
                | refine k_of (by assumption) ?_
                | refine tr_block ?_
                | refine tr_scope ?_
                | (refine tr_skip ?_; try simp only [ex_seq, ex_block])
                | (refine tr_label ?_; try simp only [ex_seq, ex_block])
                | (refine tr_exit ?_; try simp only [ex_seq_exit, ex_block_exit, Nat.reduceEqDiff, if_true, if_false, ex_seq, ex_block, reduceCtorEq, ↓reduceIte])
                | (refine tr_ret ?_; try simp only [ex_seq_ret, ex_block_ret]))
            refine tr_cond rfl (fun ht => ?_) (fun hf => ?_)
            · repeat (first
                  | refine tr_seq_k fun _ _ => ?_
                  | (refine tr_region ?_; simp only [go_sem, List.getElem?_toArray, str_beq, reduceCtorEq, Nat.reduceEqDiff, Nat.reduceLT, Nat.reduceLeDiff, Nat.reduceAdd, Nat.reduceMul, Nat.reduceSub, Nat.reduceBEq, ↓reduceIte, bne_self_eq_false, Bool.and_false, Bool.false_and, Bool.true_or, Bool.false_or])
                  | refine k_of (by assumption) ?_
                  | refine tr_block ?_
                  | refine tr_scope ?_
                  | (refine tr_skip ?_; try simp only [ex_seq, ex_block])
                  | (refine tr_label ?_; try simp only [ex_seq, ex_block])
                  | (refine tr_exit ?_; try simp only [ex_seq_exit, ex_block_exit, Nat.reduceEqDiff, if_true, if_false, ex_seq, ex_block, reduceCtorEq, ↓reduceIte])
                  | (refine tr_ret ?_; try simp only [ex_seq_ret, ex_block_ret]))
              refine (hQ _ _ [bA false] ?_ (fun m => ?_)).2 <;> simp only [go_sem, List.getElem?_toArray, str_beq, reduceCtorEq, Nat.reduceEqDiff, Nat.reduceLT, Nat.reduceLeDiff, Nat.reduceAdd, Nat.reduceMul, Nat.reduceSub, Nat.reduceBEq, ↓reduceIte, bne_self_eq_false, Bool.and_false, Bool.false_and, Bool.true_or, Bool.false_or, Tryd.f12,]
            · cases hf
          | false =>
            refine does_of' Tryd.func12 rfl (by kernel_rfl) rfl Tryd.ntmps12 rfl rfl fun Q hQ => ?_
            repeat (first
                | refine tr_seq_k fun _ _ => ?_
                | (refine tr_region ?_; simp only [go_sem, List.getElem?_toArray, str_beq, reduceCtorEq, Nat.reduceEqDiff, Nat.reduceLT, Nat.reduceLeDiff, Nat.reduceAdd, Nat.reduceMul, Nat.reduceSub, Nat.reduceBEq, ↓reduceIte, bne_self_eq_false, Bool.and_false, Bool.false_and, Bool.true_or, Bool.false_or, hT, d2, d3, d4, d5])
                | (refine call_of (cT) ?_ ?_
                   · first | rfl | simp only [go_sem, List.getElem?_toArray, str_beq, reduceCtorEq, Nat.reduceEqDiff, Nat.reduceLT, Nat.reduceLeDiff, Nat.reduceAdd, Nat.reduceMul, Nat.reduceSub, Nat.reduceBEq, ↓reduceIte, bne_self_eq_false, Bool.and_false, Bool.false_and, Bool.true_or, Bool.false_or, hT, d2, d3, d4, d5, shut_col]
                   simp only [go_sem, List.getElem?_toArray, str_beq, reduceCtorEq, Nat.reduceEqDiff, Nat.reduceLT, Nat.reduceLeDiff, Nat.reduceAdd, Nat.reduceMul, Nat.reduceSub, Nat.reduceBEq, ↓reduceIte, bne_self_eq_false, Bool.and_false, Bool.false_and, Bool.true_or, Bool.false_or, hT, d2, d3, d4, d5])
                | refine k_of (by assumption) ?_
                | refine tr_block ?_
                | refine tr_scope ?_
                | (refine tr_skip ?_; try simp only [ex_seq, ex_block])
                | (refine tr_label ?_; try simp only [ex_seq, ex_block])
                | (refine tr_exit ?_; try simp only [ex_seq_exit, ex_block_exit, Nat.reduceEqDiff, if_true, if_false, ex_seq, ex_block, reduceCtorEq, ↓reduceIte])
                | (refine tr_ret ?_; try simp only [ex_seq_ret, ex_block_ret]))
            refine tr_cond rfl (fun ht => ?_) (fun hf => ?_)
            · cases ht
            · repeat (first
                  | refine tr_seq_k fun _ _ => ?_
                  | (refine tr_region ?_; simp only [go_sem, List.getElem?_toArray, str_beq, reduceCtorEq, Nat.reduceEqDiff, Nat.reduceLT, Nat.reduceLeDiff, Nat.reduceAdd, Nat.reduceMul, Nat.reduceSub, Nat.reduceBEq, ↓reduceIte, bne_self_eq_false, Bool.and_false, Bool.false_and, Bool.true_or, Bool.false_or])
                  | refine k_of (by assumption) ?_
                  | refine tr_block ?_
                  | refine tr_scope ?_
                  | (refine tr_skip ?_; try simp only [ex_seq, ex_block])
                  | (refine tr_label ?_; try simp only [ex_seq, ex_block])
                  | (refine tr_exit ?_; try simp only [ex_seq_exit, ex_block_exit, Nat.reduceEqDiff, if_true, if_false, ex_seq, ex_block, reduceCtorEq, ↓reduceIte])
                  | (refine tr_ret ?_; try simp only [ex_seq_ret, ex_block_ret]))
              refine tr_loop_k (σ := Nat) (fun k => [(1, .ptr 0 0), (3, iA k)]) (fun _ => ⟨[⟨false, [.c (slC stC p.e1 p.prin), .c (slC prC p.e2 p.preds), .c (slC clC p.e3 p.clears), iA p.quota, iA p.budget, .c (slC ruC p.e4 p.rules), .c (slC grC p.e5 p.grants)]⟩], []⟩) (fun k => k ≤ p.preds.length ∧ ∀ (j : Nat) (hj : j < p.preds.length), j < k → gPr p.preds[j] = true) (fun k => p.preds.length - k) 0 ⟨Nat.zero_le _, fun _ _ h => absurd h (Nat.not_lt_zero _)⟩ ⟨rfl, rfl, trivial⟩ rfl ?_
              rintro k ⟨hkk, hok⟩ K hK
              by_cases hkl : k < p.preds.length
              · have e1 : decide ((k : Int) < (p.preds.length : Nat)) = true := decide_eq_true (by omega)
                have ix := idxP (ex := p.e2) hkl
                have ws := wrap_succ (show k ≤ 1000000000 by have := of_decide_eq_false d2; omega)
                have hbad := fun h => all_bad (g := gPr) hkl h
                have hnext := fun h => next_ok (g := gPr) hok hkl h
                generalize p.preds[k] = x at *
                cases h1 : decide ((x.name.size : Int) > 300) with
                | true =>
                  have hr : lightP p = false := by
                    have hg : gPr x = false := by simp [gPr, h1]
                    simp [lightP, hbad hg]
                  rw [hr] at hQ
                  repeat (first
                      | refine tr_seq_k fun _ _ => ?_
                      | (refine tr_region ?_; simp only [go_sem, List.getElem?_toArray, str_beq, reduceCtorEq, Nat.reduceEqDiff, Nat.reduceLT, Nat.reduceLeDiff, Nat.reduceAdd, Nat.reduceMul, Nat.reduceSub, Nat.reduceBEq, ↓reduceIte, bne_self_eq_false, Bool.and_false, Bool.false_and, Bool.true_or, Bool.false_or, e1])
                      | refine k_of (by assumption) ?_
                      | refine tr_block ?_
                      | refine tr_scope ?_
                      | (refine tr_skip ?_; try simp only [ex_seq, ex_block])
                      | (refine tr_label ?_; try simp only [ex_seq, ex_block])
                      | (refine tr_exit ?_; try simp only [ex_seq_exit, ex_block_exit, Nat.reduceEqDiff, if_true, if_false, ex_seq, ex_block, reduceCtorEq, ↓reduceIte])
                      | (refine tr_ret ?_; try simp only [ex_seq_ret, ex_block_ret]))
                  refine tr_cond rfl (fun ht => ?_) (fun hf => ?_)
                  · repeat (first
                        | refine tr_seq_k fun _ _ => ?_
                        | (refine tr_region ?_; simp only [go_sem, List.getElem?_toArray, str_beq, reduceCtorEq, Nat.reduceEqDiff, Nat.reduceLT, Nat.reduceLeDiff, Nat.reduceAdd, Nat.reduceMul, Nat.reduceSub, Nat.reduceBEq, ↓reduceIte, bne_self_eq_false, Bool.and_false, Bool.false_and, Bool.true_or, Bool.false_or, ix, h1])
                        | refine k_of (by assumption) ?_
                        | refine tr_block ?_
                        | refine tr_scope ?_
                        | (refine tr_skip ?_; try simp only [ex_seq, ex_block])
                        | (refine tr_label ?_; try simp only [ex_seq, ex_block])
                        | (refine tr_exit ?_; try simp only [ex_seq_exit, ex_block_exit, Nat.reduceEqDiff, if_true, if_false, ex_seq, ex_block, reduceCtorEq, ↓reduceIte])
                        | (refine tr_ret ?_; try simp only [ex_seq_ret, ex_block_ret]))
                    refine tr_cond rfl (fun ht => ?_) (fun hf => ?_)
                    · repeat (first
                          | refine tr_seq_k fun _ _ => ?_
                          | (refine tr_region ?_; simp only [go_sem, List.getElem?_toArray, str_beq, reduceCtorEq, Nat.reduceEqDiff, Nat.reduceLT, Nat.reduceLeDiff, Nat.reduceAdd, Nat.reduceMul, Nat.reduceSub, Nat.reduceBEq, ↓reduceIte, bne_self_eq_false, Bool.and_false, Bool.false_and, Bool.true_or, Bool.false_or])
                          | refine k_of (by assumption) ?_
                          | refine tr_block ?_
                          | refine tr_scope ?_
                          | (refine tr_skip ?_; try simp only [ex_seq, ex_block])
                          | (refine tr_label ?_; try simp only [ex_seq, ex_block])
                          | (refine tr_exit ?_; try simp only [ex_seq_exit, ex_block_exit, Nat.reduceEqDiff, if_true, if_false, ex_seq, ex_block, reduceCtorEq, ↓reduceIte])
                          | (refine tr_ret ?_; try simp only [ex_seq_ret, ex_block_ret]))
                      refine (hQ _ _ [bA false] ?_ (fun m => ?_)).2 <;> simp only [go_sem, List.getElem?_toArray, str_beq, reduceCtorEq, Nat.reduceEqDiff, Nat.reduceLT, Nat.reduceLeDiff, Nat.reduceAdd, Nat.reduceMul, Nat.reduceSub, Nat.reduceBEq, ↓reduceIte, bne_self_eq_false, Bool.and_false, Bool.false_and, Bool.true_or, Bool.false_or, Tryd.f12,]
                    · cases hf
                  · cases hf
                | false =>
                  have hg : gPr x = true := by simp [gPr, h1]
                  repeat (first
                      | refine tr_seq_k fun _ _ => ?_
                      | (refine tr_region ?_; simp only [go_sem, List.getElem?_toArray, str_beq, reduceCtorEq, Nat.reduceEqDiff, Nat.reduceLT, Nat.reduceLeDiff, Nat.reduceAdd, Nat.reduceMul, Nat.reduceSub, Nat.reduceBEq, ↓reduceIte, bne_self_eq_false, Bool.and_false, Bool.false_and, Bool.true_or, Bool.false_or, e1])
                      | refine k_of (by assumption) ?_
                      | refine tr_block ?_
                      | refine tr_scope ?_
                      | (refine tr_skip ?_; try simp only [ex_seq, ex_block])
                      | (refine tr_label ?_; try simp only [ex_seq, ex_block])
                      | (refine tr_exit ?_; try simp only [ex_seq_exit, ex_block_exit, Nat.reduceEqDiff, if_true, if_false, ex_seq, ex_block, reduceCtorEq, ↓reduceIte])
                      | (refine tr_ret ?_; try simp only [ex_seq_ret, ex_block_ret]))
                  refine tr_cond rfl (fun ht => ?_) (fun hf => ?_)
                  · repeat (first
                        | refine tr_seq_k fun _ _ => ?_
                        | (refine tr_region ?_; simp only [go_sem, List.getElem?_toArray, str_beq, reduceCtorEq, Nat.reduceEqDiff, Nat.reduceLT, Nat.reduceLeDiff, Nat.reduceAdd, Nat.reduceMul, Nat.reduceSub, Nat.reduceBEq, ↓reduceIte, bne_self_eq_false, Bool.and_false, Bool.false_and, Bool.true_or, Bool.false_or, ix, h1])
                        | refine k_of (by assumption) ?_
                        | refine tr_block ?_
                        | refine tr_scope ?_
                        | (refine tr_skip ?_; try simp only [ex_seq, ex_block])
                        | (refine tr_label ?_; try simp only [ex_seq, ex_block])
                        | (refine tr_exit ?_; try simp only [ex_seq_exit, ex_block_exit, Nat.reduceEqDiff, if_true, if_false, ex_seq, ex_block, reduceCtorEq, ↓reduceIte])
                        | (refine tr_ret ?_; try simp only [ex_seq_ret, ex_block_ret]))
                    refine tr_cond rfl (fun ht => ?_) (fun hf => ?_)
                    · cases ht
                    · repeat (first
                          | refine tr_seq_k fun _ _ => ?_
                          | (refine tr_region ?_; simp only [go_sem, List.getElem?_toArray, str_beq, reduceCtorEq, Nat.reduceEqDiff, Nat.reduceLT, Nat.reduceLeDiff, Nat.reduceAdd, Nat.reduceMul, Nat.reduceSub, Nat.reduceBEq, ↓reduceIte, bne_self_eq_false, Bool.and_false, Bool.false_and, Bool.true_or, Bool.false_or, ws])
                          | refine k_of (by assumption) ?_
                          | refine tr_block ?_
                          | refine tr_scope ?_
                          | (refine tr_skip ?_; try simp only [ex_seq, ex_block])
                          | (refine tr_label ?_; try simp only [ex_seq, ex_block])
                          | (refine tr_exit ?_; try simp only [ex_seq_exit, ex_block_exit, Nat.reduceEqDiff, if_true, if_false, ex_seq, ex_block, reduceCtorEq, ↓reduceIte])
                          | (refine tr_ret ?_; try simp only [ex_seq_ret, ex_block_ret]))
                      exact hK (k + 1) _ _ ⟨hkl, hnext hg⟩ ⟨⟨rfl, rfl, trivial⟩, Keep.refl _, rfl, rfl, Nat.le_refl _, Nat.le_refl _⟩ (by omega)
                  · cases hf
              · have e1 : decide ((k : Int) < (p.preds.length : Nat)) = false := decide_eq_false (by omega)
                have hA0 : p.preds.all gPr = true := all_ok fun j hj => hok j hj (by omega)
                repeat (first
                    | refine tr_seq_k fun _ _ => ?_
                    | (refine tr_region ?_; simp only [go_sem, List.getElem?_toArray, str_beq, reduceCtorEq, Nat.reduceEqDiff, Nat.reduceLT, Nat.reduceLeDiff, Nat.reduceAdd, Nat.reduceMul, Nat.reduceSub, Nat.reduceBEq, ↓reduceIte, bne_self_eq_false, Bool.and_false, Bool.false_and, Bool.true_or, Bool.false_or, e1])
                    | refine k_of (by assumption) ?_
                    | refine tr_block ?_
                    | refine tr_scope ?_
                    | (refine tr_skip ?_; try simp only [ex_seq, ex_block])
                    | (refine tr_label ?_; try simp only [ex_seq, ex_block])
                    | (refine tr_exit ?_; try simp only [ex_seq_exit, ex_block_exit, Nat.reduceEqDiff, if_true, if_false, ex_seq, ex_block, reduceCtorEq, ↓reduceIte])
                    | (refine tr_ret ?_; try simp only [ex_seq_ret, ex_block_ret]))
                refine tr_cond rfl (fun ht => ?_) (fun hf => ?_)
                · cases ht
                · repeat (first
                      | refine tr_seq_k fun _ _ => ?_
                      | (refine tr_region ?_; simp only [go_sem, List.getElem?_toArray, str_beq, reduceCtorEq, Nat.reduceEqDiff, Nat.reduceLT, Nat.reduceLeDiff, Nat.reduceAdd, Nat.reduceMul, Nat.reduceSub, Nat.reduceBEq, ↓reduceIte, bne_self_eq_false, Bool.and_false, Bool.false_and, Bool.true_or, Bool.false_or])
                      | refine k_of (by assumption) ?_
                      | refine tr_block ?_
                      | refine tr_scope ?_
                      | (refine tr_skip ?_; try simp only [ex_seq, ex_block])
                      | (refine tr_label ?_; try simp only [ex_seq, ex_block])
                      | (refine tr_exit ?_; try simp only [ex_seq_exit, ex_block_exit, Nat.reduceEqDiff, if_true, if_false, ex_seq, ex_block, reduceCtorEq, ↓reduceIte])
                      | (refine tr_ret ?_; try simp only [ex_seq_ret, ex_block_ret]))
                  refine tr_loop_k (σ := Nat) (fun k => [(1, .ptr 0 0), (4, iA k)]) (fun _ => ⟨[⟨false, [.c (slC stC p.e1 p.prin), .c (slC prC p.e2 p.preds), .c (slC clC p.e3 p.clears), iA p.quota, iA p.budget, .c (slC ruC p.e4 p.rules), .c (slC grC p.e5 p.grants)]⟩], []⟩) (fun k => k ≤ p.clears.length ∧ ∀ (j : Nat) (hj : j < p.clears.length), j < k → gCl p.clears[j] = true) (fun k => p.clears.length - k) 0 ⟨Nat.zero_le _, fun _ _ h => absurd h (Nat.not_lt_zero _)⟩ ⟨rfl, rfl, trivial⟩ rfl ?_
                  rintro k ⟨hkk, hok⟩ K hK
                  by_cases hkl : k < p.clears.length
                  · have e1 : decide ((k : Int) < (p.clears.length : Nat)) = true := decide_eq_true (by omega)
                    have ix := idxC (ex := p.e3) hkl
                    have ws := wrap_succ (show k ≤ 1000000000 by have := of_decide_eq_false d3; omega)
                    have hbad := fun h => all_bad (g := gCl) hkl h
                    have hnext := fun h => next_ok (g := gCl) hok hkl h
                    generalize p.clears[k] = x at *
                    cases h1 : decide ((x.who.size : Int) > 300) with
                    | true =>
                      have hr : lightP p = false := by
                        have hg : gCl x = false := by simp [gCl, h1]
                        simp [lightP, hbad hg]
                      rw [hr] at hQ
                      repeat (first
                          | refine tr_seq_k fun _ _ => ?_
                          | (refine tr_region ?_; simp only [go_sem, List.getElem?_toArray, str_beq, reduceCtorEq, Nat.reduceEqDiff, Nat.reduceLT, Nat.reduceLeDiff, Nat.reduceAdd, Nat.reduceMul, Nat.reduceSub, Nat.reduceBEq, ↓reduceIte, bne_self_eq_false, Bool.and_false, Bool.false_and, Bool.true_or, Bool.false_or, e1])
                          | refine k_of (by assumption) ?_
                          | refine tr_block ?_
                          | refine tr_scope ?_
                          | (refine tr_skip ?_; try simp only [ex_seq, ex_block])
                          | (refine tr_label ?_; try simp only [ex_seq, ex_block])
                          | (refine tr_exit ?_; try simp only [ex_seq_exit, ex_block_exit, Nat.reduceEqDiff, if_true, if_false, ex_seq, ex_block, reduceCtorEq, ↓reduceIte])
                          | (refine tr_ret ?_; try simp only [ex_seq_ret, ex_block_ret]))
                      refine tr_cond rfl (fun ht => ?_) (fun hf => ?_)
                      · repeat (first
                            | refine tr_seq_k fun _ _ => ?_
                            | (refine tr_region ?_; simp only [go_sem, List.getElem?_toArray, str_beq, reduceCtorEq, Nat.reduceEqDiff, Nat.reduceLT, Nat.reduceLeDiff, Nat.reduceAdd, Nat.reduceMul, Nat.reduceSub, Nat.reduceBEq, ↓reduceIte, bne_self_eq_false, Bool.and_false, Bool.false_and, Bool.true_or, Bool.false_or, ix, h1])
                            | (refine call_of (lightTexts_does x.reads 40 3000 x.ex (by decide)) ?_ ?_
                               · first | rfl | simp only [go_sem, List.getElem?_toArray, str_beq, reduceCtorEq, Nat.reduceEqDiff, Nat.reduceLT, Nat.reduceLeDiff, Nat.reduceAdd, Nat.reduceMul, Nat.reduceSub, Nat.reduceBEq, ↓reduceIte, bne_self_eq_false, Bool.and_false, Bool.false_and, Bool.true_or, Bool.false_or, ix, h1, shut_col]
                               simp only [go_sem, List.getElem?_toArray, str_beq, reduceCtorEq, Nat.reduceEqDiff, Nat.reduceLT, Nat.reduceLeDiff, Nat.reduceAdd, Nat.reduceMul, Nat.reduceSub, Nat.reduceBEq, ↓reduceIte, bne_self_eq_false, Bool.and_false, Bool.false_and, Bool.true_or, Bool.false_or, ix, h1])
                            | refine k_of (by assumption) ?_
                            | refine tr_block ?_
                            | refine tr_scope ?_
                            | (refine tr_skip ?_; try simp only [ex_seq, ex_block])
                            | (refine tr_label ?_; try simp only [ex_seq, ex_block])
                            | (refine tr_exit ?_; try simp only [ex_seq_exit, ex_block_exit, Nat.reduceEqDiff, if_true, if_false, ex_seq, ex_block, reduceCtorEq, ↓reduceIte])
                            | (refine tr_ret ?_; try simp only [ex_seq_ret, ex_block_ret]))
                        refine tr_cond rfl (fun ht => ?_) (fun hf => ?_)
                        · repeat (first
                              | refine tr_seq_k fun _ _ => ?_
                              | (refine tr_region ?_; simp only [go_sem, List.getElem?_toArray, str_beq, reduceCtorEq, Nat.reduceEqDiff, Nat.reduceLT, Nat.reduceLeDiff, Nat.reduceAdd, Nat.reduceMul, Nat.reduceSub, Nat.reduceBEq, ↓reduceIte, bne_self_eq_false, Bool.and_false, Bool.false_and, Bool.true_or, Bool.false_or])
                              | refine k_of (by assumption) ?_
                              | refine tr_block ?_
                              | refine tr_scope ?_
                              | (refine tr_skip ?_; try simp only [ex_seq, ex_block])
                              | (refine tr_label ?_; try simp only [ex_seq, ex_block])
                              | (refine tr_exit ?_; try simp only [ex_seq_exit, ex_block_exit, Nat.reduceEqDiff, if_true, if_false, ex_seq, ex_block, reduceCtorEq, ↓reduceIte])
                              | (refine tr_ret ?_; try simp only [ex_seq_ret, ex_block_ret]))
                          refine (hQ _ _ [bA false] ?_ (fun m => ?_)).2 <;> simp only [go_sem, List.getElem?_toArray, str_beq, reduceCtorEq, Nat.reduceEqDiff, Nat.reduceLT, Nat.reduceLeDiff, Nat.reduceAdd, Nat.reduceMul, Nat.reduceSub, Nat.reduceBEq, ↓reduceIte, bne_self_eq_false, Bool.and_false, Bool.false_and, Bool.true_or, Bool.false_or, Tryd.f12,]
                        · cases hf
                      · cases hf
                    | false =>
                      cases h2 : lightTx x.reads 40 3000 with
                      | false =>
                        have hr : lightP p = false := by
                          have hg : gCl x = false := by simp [gCl, h1, h2]
                          simp [lightP, hbad hg]
                        rw [hr] at hQ
                        repeat (first
                            | refine tr_seq_k fun _ _ => ?_
                            | (refine tr_region ?_; simp only [go_sem, List.getElem?_toArray, str_beq, reduceCtorEq, Nat.reduceEqDiff, Nat.reduceLT, Nat.reduceLeDiff, Nat.reduceAdd, Nat.reduceMul, Nat.reduceSub, Nat.reduceBEq, ↓reduceIte, bne_self_eq_false, Bool.and_false, Bool.false_and, Bool.true_or, Bool.false_or, e1])
                            | refine k_of (by assumption) ?_
                            | refine tr_block ?_
                            | refine tr_scope ?_
                            | (refine tr_skip ?_; try simp only [ex_seq, ex_block])
                            | (refine tr_label ?_; try simp only [ex_seq, ex_block])
                            | (refine tr_exit ?_; try simp only [ex_seq_exit, ex_block_exit, Nat.reduceEqDiff, if_true, if_false, ex_seq, ex_block, reduceCtorEq, ↓reduceIte])
                            | (refine tr_ret ?_; try simp only [ex_seq_ret, ex_block_ret]))
                        refine tr_cond rfl (fun ht => ?_) (fun hf => ?_)
                        · repeat (first
                              | refine tr_seq_k fun _ _ => ?_
                              | (refine tr_region ?_; simp only [go_sem, List.getElem?_toArray, str_beq, reduceCtorEq, Nat.reduceEqDiff, Nat.reduceLT, Nat.reduceLeDiff, Nat.reduceAdd, Nat.reduceMul, Nat.reduceSub, Nat.reduceBEq, ↓reduceIte, bne_self_eq_false, Bool.and_false, Bool.false_and, Bool.true_or, Bool.false_or, ix, h1, h2])
                              | (refine call_of (lightTexts_does x.reads 40 3000 x.ex (by decide)) ?_ ?_
                                 · first | rfl | simp only [go_sem, List.getElem?_toArray, str_beq, reduceCtorEq, Nat.reduceEqDiff, Nat.reduceLT, Nat.reduceLeDiff, Nat.reduceAdd, Nat.reduceMul, Nat.reduceSub, Nat.reduceBEq, ↓reduceIte, bne_self_eq_false, Bool.and_false, Bool.false_and, Bool.true_or, Bool.false_or, ix, h1, h2, shut_col]
                                 simp only [go_sem, List.getElem?_toArray, str_beq, reduceCtorEq, Nat.reduceEqDiff, Nat.reduceLT, Nat.reduceLeDiff, Nat.reduceAdd, Nat.reduceMul, Nat.reduceSub, Nat.reduceBEq, ↓reduceIte, bne_self_eq_false, Bool.and_false, Bool.false_and, Bool.true_or, Bool.false_or, ix, h1, h2])
                              | refine k_of (by assumption) ?_
                              | refine tr_block ?_
                              | refine tr_scope ?_
                              | (refine tr_skip ?_; try simp only [ex_seq, ex_block])
                              | (refine tr_label ?_; try simp only [ex_seq, ex_block])
                              | (refine tr_exit ?_; try simp only [ex_seq_exit, ex_block_exit, Nat.reduceEqDiff, if_true, if_false, ex_seq, ex_block, reduceCtorEq, ↓reduceIte])
                              | (refine tr_ret ?_; try simp only [ex_seq_ret, ex_block_ret]))
                          refine tr_cond rfl (fun ht => ?_) (fun hf => ?_)
                          · repeat (first
                                | refine tr_seq_k fun _ _ => ?_
                                | (refine tr_region ?_; simp only [go_sem, List.getElem?_toArray, str_beq, reduceCtorEq, Nat.reduceEqDiff, Nat.reduceLT, Nat.reduceLeDiff, Nat.reduceAdd, Nat.reduceMul, Nat.reduceSub, Nat.reduceBEq, ↓reduceIte, bne_self_eq_false, Bool.and_false, Bool.false_and, Bool.true_or, Bool.false_or])
                                | refine k_of (by assumption) ?_
                                | refine tr_block ?_
                                | refine tr_scope ?_
                                | (refine tr_skip ?_; try simp only [ex_seq, ex_block])
                                | (refine tr_label ?_; try simp only [ex_seq, ex_block])
                                | (refine tr_exit ?_; try simp only [ex_seq_exit, ex_block_exit, Nat.reduceEqDiff, if_true, if_false, ex_seq, ex_block, reduceCtorEq, ↓reduceIte])
                                | (refine tr_ret ?_; try simp only [ex_seq_ret, ex_block_ret]))
                            refine (hQ _ _ [bA false] ?_ (fun m => ?_)).2 <;> simp only [go_sem, List.getElem?_toArray, str_beq, reduceCtorEq, Nat.reduceEqDiff, Nat.reduceLT, Nat.reduceLeDiff, Nat.reduceAdd, Nat.reduceMul, Nat.reduceSub, Nat.reduceBEq, ↓reduceIte, bne_self_eq_false, Bool.and_false, Bool.false_and, Bool.true_or, Bool.false_or, Tryd.f12,]
                          · cases hf
                        · cases hf
                      | true =>
                        have hg : gCl x = true := by simp [gCl, h1, h2]
                        repeat (first
                            | refine tr_seq_k fun _ _ => ?_
                            | (refine tr_region ?_; simp only [go_sem, List.getElem?_toArray, str_beq, reduceCtorEq, Nat.reduceEqDiff, Nat.reduceLT, Nat.reduceLeDiff, Nat.reduceAdd, Nat.reduceMul, Nat.reduceSub, Nat.reduceBEq, ↓reduceIte, bne_self_eq_false, Bool.and_false, Bool.false_and, Bool.true_or, Bool.false_or, e1])
                            | refine k_of (by assumption) ?_
                            | refine tr_block ?_
                            | refine tr_scope ?_
                            | (refine tr_skip ?_; try simp only [ex_seq, ex_block])
                            | (refine tr_label ?_; try simp only [ex_seq, ex_block])
                            | (refine tr_exit ?_; try simp only [ex_seq_exit, ex_block_exit, Nat.reduceEqDiff, if_true, if_false, ex_seq, ex_block, reduceCtorEq, ↓reduceIte])
                            | (refine tr_ret ?_; try simp only [ex_seq_ret, ex_block_ret]))
                        refine tr_cond rfl (fun ht => ?_) (fun hf => ?_)
                        · repeat (first
                              | refine tr_seq_k fun _ _ => ?_
                              | (refine tr_region ?_; simp only [go_sem, List.getElem?_toArray, str_beq, reduceCtorEq, Nat.reduceEqDiff, Nat.reduceLT, Nat.reduceLeDiff, Nat.reduceAdd, Nat.reduceMul, Nat.reduceSub, Nat.reduceBEq, ↓reduceIte, bne_self_eq_false, Bool.and_false, Bool.false_and, Bool.true_or, Bool.false_or, ix, h1, h2])
                              | (refine call_of (lightTexts_does x.reads 40 3000 x.ex (by decide)) ?_ ?_
                                 · first | rfl | simp only [go_sem, List.getElem?_toArray, str_beq, reduceCtorEq, Nat.reduceEqDiff, Nat.reduceLT, Nat.reduceLeDiff, Nat.reduceAdd, Nat.reduceMul, Nat.reduceSub, Nat.reduceBEq, ↓reduceIte, bne_self_eq_false, Bool.and_false, Bool.false_and, Bool.true_or, Bool.false_or, ix, h1, h2, shut_col]
                                 simp only [go_sem, List.getElem?_toArray, str_beq, reduceCtorEq, Nat.reduceEqDiff, Nat.reduceLT, Nat.reduceLeDiff, Nat.reduceAdd, Nat.reduceMul, Nat.reduceSub, Nat.reduceBEq, ↓reduceIte, bne_self_eq_false, Bool.and_false, Bool.false_and, Bool.true_or, Bool.false_or, ix, h1, h2])
                              | refine k_of (by assumption) ?_
                              | refine tr_block ?_
                              | refine tr_scope ?_
                              | (refine tr_skip ?_; try simp only [ex_seq, ex_block])
                              | (refine tr_label ?_; try simp only [ex_seq, ex_block])
                              | (refine tr_exit ?_; try simp only [ex_seq_exit, ex_block_exit, Nat.reduceEqDiff, if_true, if_false, ex_seq, ex_block, reduceCtorEq, ↓reduceIte])
                              | (refine tr_ret ?_; try simp only [ex_seq_ret, ex_block_ret]))
                          refine tr_cond rfl (fun ht => ?_) (fun hf => ?_)
                          · cases ht
                          · repeat (first
                                | refine tr_seq_k fun _ _ => ?_
                                | (refine tr_region ?_; simp only [go_sem, List.getElem?_toArray, str_beq, reduceCtorEq, Nat.reduceEqDiff, Nat.reduceLT, Nat.reduceLeDiff, Nat.reduceAdd, Nat.reduceMul, Nat.reduceSub, Nat.reduceBEq, ↓reduceIte, bne_self_eq_false, Bool.and_false, Bool.false_and, Bool.true_or, Bool.false_or, ws])
                                | refine k_of (by assumption) ?_
                                | refine tr_block ?_
                                | refine tr_scope ?_
                                | (refine tr_skip ?_; try simp only [ex_seq, ex_block])
                                | (refine tr_label ?_; try simp only [ex_seq, ex_block])
                                | (refine tr_exit ?_; try simp only [ex_seq_exit, ex_block_exit, Nat.reduceEqDiff, if_true, if_false, ex_seq, ex_block, reduceCtorEq, ↓reduceIte])
                                | (refine tr_ret ?_; try simp only [ex_seq_ret, ex_block_ret]))
                            exact hK (k + 1) _ _ ⟨hkl, hnext hg⟩ ⟨⟨rfl, rfl, trivial⟩, Keep.refl _, rfl, rfl, Nat.le_refl _, Nat.le_refl _⟩ (by omega)
                        · cases hf
                  · have e1 : decide ((k : Int) < (p.clears.length : Nat)) = false := decide_eq_false (by omega)
                    have hA1 : p.clears.all gCl = true := all_ok fun j hj => hok j hj (by omega)
                    repeat (first
                        | refine tr_seq_k fun _ _ => ?_
                        | (refine tr_region ?_; simp only [go_sem, List.getElem?_toArray, str_beq, reduceCtorEq, Nat.reduceEqDiff, Nat.reduceLT, Nat.reduceLeDiff, Nat.reduceAdd, Nat.reduceMul, Nat.reduceSub, Nat.reduceBEq, ↓reduceIte, bne_self_eq_false, Bool.and_false, Bool.false_and, Bool.true_or, Bool.false_or, e1])
                        | refine k_of (by assumption) ?_
                        | refine tr_block ?_
                        | refine tr_scope ?_
                        | (refine tr_skip ?_; try simp only [ex_seq, ex_block])
                        | (refine tr_label ?_; try simp only [ex_seq, ex_block])
                        | (refine tr_exit ?_; try simp only [ex_seq_exit, ex_block_exit, Nat.reduceEqDiff, if_true, if_false, ex_seq, ex_block, reduceCtorEq, ↓reduceIte])
                        | (refine tr_ret ?_; try simp only [ex_seq_ret, ex_block_ret]))
                    refine tr_cond rfl (fun ht => ?_) (fun hf => ?_)
                    · cases ht
                    · repeat (first
                          | refine tr_seq_k fun _ _ => ?_
                          | (refine tr_region ?_; simp only [go_sem, List.getElem?_toArray, str_beq, reduceCtorEq, Nat.reduceEqDiff, Nat.reduceLT, Nat.reduceLeDiff, Nat.reduceAdd, Nat.reduceMul, Nat.reduceSub, Nat.reduceBEq, ↓reduceIte, bne_self_eq_false, Bool.and_false, Bool.false_and, Bool.true_or, Bool.false_or])
                          | refine k_of (by assumption) ?_
                          | refine tr_block ?_
                          | refine tr_scope ?_
                          | (refine tr_skip ?_; try simp only [ex_seq, ex_block])
                          | (refine tr_label ?_; try simp only [ex_seq, ex_block])
                          | (refine tr_exit ?_; try simp only [ex_seq_exit, ex_block_exit, Nat.reduceEqDiff, if_true, if_false, ex_seq, ex_block, reduceCtorEq, ↓reduceIte])
                          | (refine tr_ret ?_; try simp only [ex_seq_ret, ex_block_ret]))
                      refine tr_loop_k (σ := Nat) (fun k => [(1, .ptr 0 0), (5, iA k)]) (fun _ => ⟨[⟨false, [.c (slC stC p.e1 p.prin), .c (slC prC p.e2 p.preds), .c (slC clC p.e3 p.clears), iA p.quota, iA p.budget, .c (slC ruC p.e4 p.rules), .c (slC grC p.e5 p.grants)]⟩], []⟩) (fun k => k ≤ p.rules.length ∧ ∀ (j : Nat) (hj : j < p.rules.length), j < k → gRu p.rules[j] = true) (fun k => p.rules.length - k) 0 ⟨Nat.zero_le _, fun _ _ h => absurd h (Nat.not_lt_zero _)⟩ ⟨rfl, rfl, trivial⟩ rfl ?_
                      rintro k ⟨hkk, hok⟩ K hK
                      by_cases hkl : k < p.rules.length
                      · have e1 : decide ((k : Int) < (p.rules.length : Nat)) = true := decide_eq_true (by omega)
                        have ix := idxRu (ex := p.e4) hkl
                        have ws := wrap_succ (show k ≤ 1000000000 by have := of_decide_eq_false d4; omega)
                        have hbad := fun h => all_bad (g := gRu) hkl h
                        have hnext := fun h => next_ok (g := gRu) hok hkl h
                        generalize p.rules[k] = x at *
                        cases h1 : lightA x.head with
                        | false =>
                          have hr : lightP p = false := by
                            have hg : gRu x = false := by simp [gRu, h1]
                            simp [lightP, hbad hg]
                          rw [hr] at hQ
                          repeat (first
                              | refine tr_seq_k fun _ _ => ?_
                              | (refine tr_region ?_; simp only [go_sem, List.getElem?_toArray, str_beq, reduceCtorEq, Nat.reduceEqDiff, Nat.reduceLT, Nat.reduceLeDiff, Nat.reduceAdd, Nat.reduceMul, Nat.reduceSub, Nat.reduceBEq, ↓reduceIte, bne_self_eq_false, Bool.and_false, Bool.false_and, Bool.true_or, Bool.false_or, e1])
                              | refine k_of (by assumption) ?_
                              | refine tr_block ?_
                              | refine tr_scope ?_
                              | (refine tr_skip ?_; try simp only [ex_seq, ex_block])
                              | (refine tr_label ?_; try simp only [ex_seq, ex_block])
                              | (refine tr_exit ?_; try simp only [ex_seq_exit, ex_block_exit, Nat.reduceEqDiff, if_true, if_false, ex_seq, ex_block, reduceCtorEq, ↓reduceIte])
                              | (refine tr_ret ?_; try simp only [ex_seq_ret, ex_block_ret]))
                          refine tr_cond rfl (fun ht => ?_) (fun hf => ?_)
                          · repeat (first
                                | refine tr_seq_k fun _ _ => ?_
                                | (refine tr_region ?_; simp only [go_sem, List.getElem?_toArray, str_beq, reduceCtorEq, Nat.reduceEqDiff, Nat.reduceLT, Nat.reduceLeDiff, Nat.reduceAdd, Nat.reduceMul, Nat.reduceSub, Nat.reduceBEq, ↓reduceIte, bne_self_eq_false, Bool.and_false, Bool.false_and, Bool.true_or, Bool.false_or, ix, h1])
                                | (refine call_of (lightA_does x.head) ?_ ?_
                                   · first | rfl | simp only [go_sem, List.getElem?_toArray, str_beq, reduceCtorEq, Nat.reduceEqDiff, Nat.reduceLT, Nat.reduceLeDiff, Nat.reduceAdd, Nat.reduceMul, Nat.reduceSub, Nat.reduceBEq, ↓reduceIte, bne_self_eq_false, Bool.and_false, Bool.false_and, Bool.true_or, Bool.false_or, ix, h1, shut_col]
                                   simp only [go_sem, List.getElem?_toArray, str_beq, reduceCtorEq, Nat.reduceEqDiff, Nat.reduceLT, Nat.reduceLeDiff, Nat.reduceAdd, Nat.reduceMul, Nat.reduceSub, Nat.reduceBEq, ↓reduceIte, bne_self_eq_false, Bool.and_false, Bool.false_and, Bool.true_or, Bool.false_or, ix, h1])
                                | (refine call_of (lightAtoms_does x.body 9 x.ex (by decide)) ?_ ?_
                                   · first | rfl | simp only [go_sem, List.getElem?_toArray, str_beq, reduceCtorEq, Nat.reduceEqDiff, Nat.reduceLT, Nat.reduceLeDiff, Nat.reduceAdd, Nat.reduceMul, Nat.reduceSub, Nat.reduceBEq, ↓reduceIte, bne_self_eq_false, Bool.and_false, Bool.false_and, Bool.true_or, Bool.false_or, ix, h1, shut_col]
                                   simp only [go_sem, List.getElem?_toArray, str_beq, reduceCtorEq, Nat.reduceEqDiff, Nat.reduceLT, Nat.reduceLeDiff, Nat.reduceAdd, Nat.reduceMul, Nat.reduceSub, Nat.reduceBEq, ↓reduceIte, bne_self_eq_false, Bool.and_false, Bool.false_and, Bool.true_or, Bool.false_or, ix, h1])
                                | refine k_of (by assumption) ?_
                                | refine tr_block ?_
                                | refine tr_scope ?_
                                | (refine tr_skip ?_; try simp only [ex_seq, ex_block])
                                | (refine tr_label ?_; try simp only [ex_seq, ex_block])
                                | (refine tr_exit ?_; try simp only [ex_seq_exit, ex_block_exit, Nat.reduceEqDiff, if_true, if_false, ex_seq, ex_block, reduceCtorEq, ↓reduceIte])
                                | (refine tr_ret ?_; try simp only [ex_seq_ret, ex_block_ret]))
                            refine tr_cond rfl (fun ht => ?_) (fun hf => ?_)
                            · repeat (first
                                  | refine tr_seq_k fun _ _ => ?_
                                  | (refine tr_region ?_; simp only [go_sem, List.getElem?_toArray, str_beq, reduceCtorEq, Nat.reduceEqDiff, Nat.reduceLT, Nat.reduceLeDiff, Nat.reduceAdd, Nat.reduceMul, Nat.reduceSub, Nat.reduceBEq, ↓reduceIte, bne_self_eq_false, Bool.and_false, Bool.false_and, Bool.true_or, Bool.false_or])
                                  | refine k_of (by assumption) ?_
                                  | refine tr_block ?_
                                  | refine tr_scope ?_
                                  | (refine tr_skip ?_; try simp only [ex_seq, ex_block])
                                  | (refine tr_label ?_; try simp only [ex_seq, ex_block])
                                  | (refine tr_exit ?_; try simp only [ex_seq_exit, ex_block_exit, Nat.reduceEqDiff, if_true, if_false, ex_seq, ex_block, reduceCtorEq, ↓reduceIte])
                                  | (refine tr_ret ?_; try simp only [ex_seq_ret, ex_block_ret]))
                              refine (hQ _ _ [bA false] ?_ (fun m => ?_)).2 <;> simp only [go_sem, List.getElem?_toArray, str_beq, reduceCtorEq, Nat.reduceEqDiff, Nat.reduceLT, Nat.reduceLeDiff, Nat.reduceAdd, Nat.reduceMul, Nat.reduceSub, Nat.reduceBEq, ↓reduceIte, bne_self_eq_false, Bool.and_false, Bool.false_and, Bool.true_or, Bool.false_or, Tryd.f12,]
                            · cases hf
                          · cases hf
                        | true =>
                          cases h2 : lightAs x.body 9 with
                          | false =>
                            have hr : lightP p = false := by
                              have hg : gRu x = false := by simp [gRu, h1, h2]
                              simp [lightP, hbad hg]
                            rw [hr] at hQ
                            repeat (first
                                | refine tr_seq_k fun _ _ => ?_
                                | (refine tr_region ?_; simp only [go_sem, List.getElem?_toArray, str_beq, reduceCtorEq, Nat.reduceEqDiff, Nat.reduceLT, Nat.reduceLeDiff, Nat.reduceAdd, Nat.reduceMul, Nat.reduceSub, Nat.reduceBEq, ↓reduceIte, bne_self_eq_false, Bool.and_false, Bool.false_and, Bool.true_or, Bool.false_or, e1])
                                | refine k_of (by assumption) ?_
                                | refine tr_block ?_
                                | refine tr_scope ?_
                                | (refine tr_skip ?_; try simp only [ex_seq, ex_block])
                                | (refine tr_label ?_; try simp only [ex_seq, ex_block])
                                | (refine tr_exit ?_; try simp only [ex_seq_exit, ex_block_exit, Nat.reduceEqDiff, if_true, if_false, ex_seq, ex_block, reduceCtorEq, ↓reduceIte])
                                | (refine tr_ret ?_; try simp only [ex_seq_ret, ex_block_ret]))
                            refine tr_cond rfl (fun ht => ?_) (fun hf => ?_)
                            · repeat (first
                                  | refine tr_seq_k fun _ _ => ?_
                                  | (refine tr_region ?_; simp only [go_sem, List.getElem?_toArray, str_beq, reduceCtorEq, Nat.reduceEqDiff, Nat.reduceLT, Nat.reduceLeDiff, Nat.reduceAdd, Nat.reduceMul, Nat.reduceSub, Nat.reduceBEq, ↓reduceIte, bne_self_eq_false, Bool.and_false, Bool.false_and, Bool.true_or, Bool.false_or, ix, h1, h2])
                                  | (refine call_of (lightA_does x.head) ?_ ?_
                                     · first | rfl | simp only [go_sem, List.getElem?_toArray, str_beq, reduceCtorEq, Nat.reduceEqDiff, Nat.reduceLT, Nat.reduceLeDiff, Nat.reduceAdd, Nat.reduceMul, Nat.reduceSub, Nat.reduceBEq, ↓reduceIte, bne_self_eq_false, Bool.and_false, Bool.false_and, Bool.true_or, Bool.false_or, ix, h1, h2, shut_col]
                                     simp only [go_sem, List.getElem?_toArray, str_beq, reduceCtorEq, Nat.reduceEqDiff, Nat.reduceLT, Nat.reduceLeDiff, Nat.reduceAdd, Nat.reduceMul, Nat.reduceSub, Nat.reduceBEq, ↓reduceIte, bne_self_eq_false, Bool.and_false, Bool.false_and, Bool.true_or, Bool.false_or, ix, h1, h2])
                                  | (refine call_of (lightAtoms_does x.body 9 x.ex (by decide)) ?_ ?_
                                     · first | rfl | simp only [go_sem, List.getElem?_toArray, str_beq, reduceCtorEq, Nat.reduceEqDiff, Nat.reduceLT, Nat.reduceLeDiff, Nat.reduceAdd, Nat.reduceMul, Nat.reduceSub, Nat.reduceBEq, ↓reduceIte, bne_self_eq_false, Bool.and_false, Bool.false_and, Bool.true_or, Bool.false_or, ix, h1, h2, shut_col]
                                     simp only [go_sem, List.getElem?_toArray, str_beq, reduceCtorEq, Nat.reduceEqDiff, Nat.reduceLT, Nat.reduceLeDiff, Nat.reduceAdd, Nat.reduceMul, Nat.reduceSub, Nat.reduceBEq, ↓reduceIte, bne_self_eq_false, Bool.and_false, Bool.false_and, Bool.true_or, Bool.false_or, ix, h1, h2])
                                  | refine k_of (by assumption) ?_
                                  | refine tr_block ?_
                                  | refine tr_scope ?_
                                  | (refine tr_skip ?_; try simp only [ex_seq, ex_block])
                                  | (refine tr_label ?_; try simp only [ex_seq, ex_block])
                                  | (refine tr_exit ?_; try simp only [ex_seq_exit, ex_block_exit, Nat.reduceEqDiff, if_true, if_false, ex_seq, ex_block, reduceCtorEq, ↓reduceIte])
                                  | (refine tr_ret ?_; try simp only [ex_seq_ret, ex_block_ret]))
                              refine tr_cond rfl (fun ht => ?_) (fun hf => ?_)
                              · repeat (first
                                    | refine tr_seq_k fun _ _ => ?_
                                    | (refine tr_region ?_; simp only [go_sem, List.getElem?_toArray, str_beq, reduceCtorEq, Nat.reduceEqDiff, Nat.reduceLT, Nat.reduceLeDiff, Nat.reduceAdd, Nat.reduceMul, Nat.reduceSub, Nat.reduceBEq, ↓reduceIte, bne_self_eq_false, Bool.and_false, Bool.false_and, Bool.true_or, Bool.false_or])
                                    | refine k_of (by assumption) ?_
                                    | refine tr_block ?_
                                    | refine tr_scope ?_
                                    | (refine tr_skip ?_; try simp only [ex_seq, ex_block])
                                    | (refine tr_label ?_; try simp only [ex_seq, ex_block])
                                    | (refine tr_exit ?_; try simp only [ex_seq_exit, ex_block_exit, Nat.reduceEqDiff, if_true, if_false, ex_seq, ex_block, reduceCtorEq, ↓reduceIte])
                                    | (refine tr_ret ?_; try simp only [ex_seq_ret, ex_block_ret]))
                                refine (hQ _ _ [bA false] ?_ (fun m => ?_)).2 <;> simp only [go_sem, List.getElem?_toArray, str_beq, reduceCtorEq, Nat.reduceEqDiff, Nat.reduceLT, Nat.reduceLeDiff, Nat.reduceAdd, Nat.reduceMul, Nat.reduceSub, Nat.reduceBEq, ↓reduceIte, bne_self_eq_false, Bool.and_false, Bool.false_and, Bool.true_or, Bool.false_or, Tryd.f12,]
                              · cases hf
                            · cases hf
                          | true =>
                            have hg : gRu x = true := by simp [gRu, h1, h2]
                            repeat (first
                                | refine tr_seq_k fun _ _ => ?_
                                | (refine tr_region ?_; simp only [go_sem, List.getElem?_toArray, str_beq, reduceCtorEq, Nat.reduceEqDiff, Nat.reduceLT, Nat.reduceLeDiff, Nat.reduceAdd, Nat.reduceMul, Nat.reduceSub, Nat.reduceBEq, ↓reduceIte, bne_self_eq_false, Bool.and_false, Bool.false_and, Bool.true_or, Bool.false_or, e1])
                                | refine k_of (by assumption) ?_
                                | refine tr_block ?_
                                | refine tr_scope ?_
                                | (refine tr_skip ?_; try simp only [ex_seq, ex_block])
                                | (refine tr_label ?_; try simp only [ex_seq, ex_block])
                                | (refine tr_exit ?_; try simp only [ex_seq_exit, ex_block_exit, Nat.reduceEqDiff, if_true, if_false, ex_seq, ex_block, reduceCtorEq, ↓reduceIte])
                                | (refine tr_ret ?_; try simp only [ex_seq_ret, ex_block_ret]))
                            refine tr_cond rfl (fun ht => ?_) (fun hf => ?_)
                            · repeat (first
                                  | refine tr_seq_k fun _ _ => ?_
                                  | (refine tr_region ?_; simp only [go_sem, List.getElem?_toArray, str_beq, reduceCtorEq, Nat.reduceEqDiff, Nat.reduceLT, Nat.reduceLeDiff, Nat.reduceAdd, Nat.reduceMul, Nat.reduceSub, Nat.reduceBEq, ↓reduceIte, bne_self_eq_false, Bool.and_false, Bool.false_and, Bool.true_or, Bool.false_or, ix, h1, h2])
                                  | (refine call_of (lightA_does x.head) ?_ ?_
                                     · first | rfl | simp only [go_sem, List.getElem?_toArray, str_beq, reduceCtorEq, Nat.reduceEqDiff, Nat.reduceLT, Nat.reduceLeDiff, Nat.reduceAdd, Nat.reduceMul, Nat.reduceSub, Nat.reduceBEq, ↓reduceIte, bne_self_eq_false, Bool.and_false, Bool.false_and, Bool.true_or, Bool.false_or, ix, h1, h2, shut_col]
                                     simp only [go_sem, List.getElem?_toArray, str_beq, reduceCtorEq, Nat.reduceEqDiff, Nat.reduceLT, Nat.reduceLeDiff, Nat.reduceAdd, Nat.reduceMul, Nat.reduceSub, Nat.reduceBEq, ↓reduceIte, bne_self_eq_false, Bool.and_false, Bool.false_and, Bool.true_or, Bool.false_or, ix, h1, h2])
                                  | (refine call_of (lightAtoms_does x.body 9 x.ex (by decide)) ?_ ?_
                                     · first | rfl | simp only [go_sem, List.getElem?_toArray, str_beq, reduceCtorEq, Nat.reduceEqDiff, Nat.reduceLT, Nat.reduceLeDiff, Nat.reduceAdd, Nat.reduceMul, Nat.reduceSub, Nat.reduceBEq, ↓reduceIte, bne_self_eq_false, Bool.and_false, Bool.false_and, Bool.true_or, Bool.false_or, ix, h1, h2, shut_col]
                                     simp only [go_sem, List.getElem?_toArray, str_beq, reduceCtorEq, Nat.reduceEqDiff, Nat.reduceLT, Nat.reduceLeDiff, Nat.reduceAdd, Nat.reduceMul, Nat.reduceSub, Nat.reduceBEq, ↓reduceIte, bne_self_eq_false, Bool.and_false, Bool.false_and, Bool.true_or, Bool.false_or, ix, h1, h2])
                                  | refine k_of (by assumption) ?_
                                  | refine tr_block ?_
                                  | refine tr_scope ?_
                                  | (refine tr_skip ?_; try simp only [ex_seq, ex_block])
                                  | (refine tr_label ?_; try simp only [ex_seq, ex_block])
                                  | (refine tr_exit ?_; try simp only [ex_seq_exit, ex_block_exit, Nat.reduceEqDiff, if_true, if_false, ex_seq, ex_block, reduceCtorEq, ↓reduceIte])
                                  | (refine tr_ret ?_; try simp only [ex_seq_ret, ex_block_ret]))
                              refine tr_cond rfl (fun ht => ?_) (fun hf => ?_)
                              · cases ht
                              · repeat (first
                                    | refine tr_seq_k fun _ _ => ?_
                                    | (refine tr_region ?_; simp only [go_sem, List.getElem?_toArray, str_beq, reduceCtorEq, Nat.reduceEqDiff, Nat.reduceLT, Nat.reduceLeDiff, Nat.reduceAdd, Nat.reduceMul, Nat.reduceSub, Nat.reduceBEq, ↓reduceIte, bne_self_eq_false, Bool.and_false, Bool.false_and, Bool.true_or, Bool.false_or, ws])
                                    | refine k_of (by assumption) ?_
                                    | refine tr_block ?_
                                    | refine tr_scope ?_
                                    | (refine tr_skip ?_; try simp only [ex_seq, ex_block])
                                    | (refine tr_label ?_; try simp only [ex_seq, ex_block])
                                    | (refine tr_exit ?_; try simp only [ex_seq_exit, ex_block_exit, Nat.reduceEqDiff, if_true, if_false, ex_seq, ex_block, reduceCtorEq, ↓reduceIte])
                                    | (refine tr_ret ?_; try simp only [ex_seq_ret, ex_block_ret]))
                                exact hK (k + 1) _ _ ⟨hkl, hnext hg⟩ ⟨⟨rfl, rfl, trivial⟩, Keep.refl _, rfl, rfl, Nat.le_refl _, Nat.le_refl _⟩ (by omega)
                            · cases hf
                      · have e1 : decide ((k : Int) < (p.rules.length : Nat)) = false := decide_eq_false (by omega)
                        have hA2 : p.rules.all gRu = true := all_ok fun j hj => hok j hj (by omega)
                        repeat (first
                            | refine tr_seq_k fun _ _ => ?_
                            | (refine tr_region ?_; simp only [go_sem, List.getElem?_toArray, str_beq, reduceCtorEq, Nat.reduceEqDiff, Nat.reduceLT, Nat.reduceLeDiff, Nat.reduceAdd, Nat.reduceMul, Nat.reduceSub, Nat.reduceBEq, ↓reduceIte, bne_self_eq_false, Bool.and_false, Bool.false_and, Bool.true_or, Bool.false_or, e1])
                            | refine k_of (by assumption) ?_
                            | refine tr_block ?_
                            | refine tr_scope ?_
                            | (refine tr_skip ?_; try simp only [ex_seq, ex_block])
                            | (refine tr_label ?_; try simp only [ex_seq, ex_block])
                            | (refine tr_exit ?_; try simp only [ex_seq_exit, ex_block_exit, Nat.reduceEqDiff, if_true, if_false, ex_seq, ex_block, reduceCtorEq, ↓reduceIte])
                            | (refine tr_ret ?_; try simp only [ex_seq_ret, ex_block_ret]))
                        refine tr_cond rfl (fun ht => ?_) (fun hf => ?_)
                        · cases ht
                        · repeat (first
                              | refine tr_seq_k fun _ _ => ?_
                              | (refine tr_region ?_; simp only [go_sem, List.getElem?_toArray, str_beq, reduceCtorEq, Nat.reduceEqDiff, Nat.reduceLT, Nat.reduceLeDiff, Nat.reduceAdd, Nat.reduceMul, Nat.reduceSub, Nat.reduceBEq, ↓reduceIte, bne_self_eq_false, Bool.and_false, Bool.false_and, Bool.true_or, Bool.false_or])
                              | refine k_of (by assumption) ?_
                              | refine tr_block ?_
                              | refine tr_scope ?_
                              | (refine tr_skip ?_; try simp only [ex_seq, ex_block])
                              | (refine tr_label ?_; try simp only [ex_seq, ex_block])
                              | (refine tr_exit ?_; try simp only [ex_seq_exit, ex_block_exit, Nat.reduceEqDiff, if_true, if_false, ex_seq, ex_block, reduceCtorEq, ↓reduceIte])
                              | (refine tr_ret ?_; try simp only [ex_seq_ret, ex_block_ret]))
                          refine tr_loop_k (σ := Nat) (fun k => [(1, .ptr 0 0), (6, iA k)]) (fun _ => ⟨[⟨false, [.c (slC stC p.e1 p.prin), .c (slC prC p.e2 p.preds), .c (slC clC p.e3 p.clears), iA p.quota, iA p.budget, .c (slC ruC p.e4 p.rules), .c (slC grC p.e5 p.grants)]⟩], []⟩) (fun k => k ≤ p.grants.length ∧ ∀ (j : Nat) (hj : j < p.grants.length), j < k → gGr p.grants[j] = true) (fun k => p.grants.length - k) 0 ⟨Nat.zero_le _, fun _ _ h => absurd h (Nat.not_lt_zero _)⟩ ⟨rfl, rfl, trivial⟩ rfl ?_
                          rintro k ⟨hkk, hok⟩ K hK
                          by_cases hkl : k < p.grants.length
                          · have e1 : decide ((k : Int) < (p.grants.length : Nat)) = true := decide_eq_true (by omega)
                            have ix := idxGr (ex := p.e5) hkl
                            have ws := wrap_succ (show k ≤ 1000000000 by have := of_decide_eq_false d5; omega)
                            have hbad := fun h => all_bad (g := gGr) hkl h
                            have hnext := fun h => next_ok (g := gGr) hok hkl h
                            generalize p.grants[k] = x at *
                            cases h1 : decide ((x.tw.size : Int) > 300) with
                            | true =>
                              have hr : lightP p = false := by
                                have hg : gGr x = false := by simp [gGr, h1]
                                simp [lightP, hbad hg]
                              rw [hr] at hQ
                              repeat (first
                                  | refine tr_seq_k fun _ _ => ?_
                                  | (refine tr_region ?_; simp only [go_sem, List.getElem?_toArray, str_beq, reduceCtorEq, Nat.reduceEqDiff, Nat.reduceLT, Nat.reduceLeDiff, Nat.reduceAdd, Nat.reduceMul, Nat.reduceSub, Nat.reduceBEq, ↓reduceIte, bne_self_eq_false, Bool.and_false, Bool.false_and, Bool.true_or, Bool.false_or, e1])
                                  | refine k_of (by assumption) ?_
                                  | refine tr_block ?_
                                  | refine tr_scope ?_
                                  | (refine tr_skip ?_; try simp only [ex_seq, ex_block])
                                  | (refine tr_label ?_; try simp only [ex_seq, ex_block])
                                  | (refine tr_exit ?_; try simp only [ex_seq_exit, ex_block_exit, Nat.reduceEqDiff, if_true, if_false, ex_seq, ex_block, reduceCtorEq, ↓reduceIte])
                                  | (refine tr_ret ?_; try simp only [ex_seq_ret, ex_block_ret]))
                              refine tr_cond rfl (fun ht => ?_) (fun hf => ?_)
                              · repeat (first
                                    | refine tr_seq_k fun _ _ => ?_
                                    | (refine tr_region ?_; simp only [go_sem, List.getElem?_toArray, str_beq, reduceCtorEq, Nat.reduceEqDiff, Nat.reduceLT, Nat.reduceLeDiff, Nat.reduceAdd, Nat.reduceMul, Nat.reduceSub, Nat.reduceBEq, ↓reduceIte, bne_self_eq_false, Bool.and_false, Bool.false_and, Bool.true_or, Bool.false_or, ix, h1])
                                    | (refine call_of (lightA_does x.head) ?_ ?_
                                       · first | rfl | simp only [go_sem, List.getElem?_toArray, str_beq, reduceCtorEq, Nat.reduceEqDiff, Nat.reduceLT, Nat.reduceLeDiff, Nat.reduceAdd, Nat.reduceMul, Nat.reduceSub, Nat.reduceBEq, ↓reduceIte, bne_self_eq_false, Bool.and_false, Bool.false_and, Bool.true_or, Bool.false_or, ix, h1, shut_col]
                                       simp only [go_sem, List.getElem?_toArray, str_beq, reduceCtorEq, Nat.reduceEqDiff, Nat.reduceLT, Nat.reduceLeDiff, Nat.reduceAdd, Nat.reduceMul, Nat.reduceSub, Nat.reduceBEq, ↓reduceIte, bne_self_eq_false, Bool.and_false, Bool.false_and, Bool.true_or, Bool.false_or, ix, h1])
                                    | (refine call_of (lightAtoms_does x.body 9 x.ex (by decide)) ?_ ?_
                                       · first | rfl | simp only [go_sem, List.getElem?_toArray, str_beq, reduceCtorEq, Nat.reduceEqDiff, Nat.reduceLT, Nat.reduceLeDiff, Nat.reduceAdd, Nat.reduceMul, Nat.reduceSub, Nat.reduceBEq, ↓reduceIte, bne_self_eq_false, Bool.and_false, Bool.false_and, Bool.true_or, Bool.false_or, ix, h1, shut_col]
                                       simp only [go_sem, List.getElem?_toArray, str_beq, reduceCtorEq, Nat.reduceEqDiff, Nat.reduceLT, Nat.reduceLeDiff, Nat.reduceAdd, Nat.reduceMul, Nat.reduceSub, Nat.reduceBEq, ↓reduceIte, bne_self_eq_false, Bool.and_false, Bool.false_and, Bool.true_or, Bool.false_or, ix, h1])
                                    | refine k_of (by assumption) ?_
                                    | refine tr_block ?_
                                    | refine tr_scope ?_
                                    | (refine tr_skip ?_; try simp only [ex_seq, ex_block])
                                    | (refine tr_label ?_; try simp only [ex_seq, ex_block])
                                    | (refine tr_exit ?_; try simp only [ex_seq_exit, ex_block_exit, Nat.reduceEqDiff, if_true, if_false, ex_seq, ex_block, reduceCtorEq, ↓reduceIte])
                                    | (refine tr_ret ?_; try simp only [ex_seq_ret, ex_block_ret]))
                                refine tr_cond rfl (fun ht => ?_) (fun hf => ?_)
                                · repeat (first
                                      | refine tr_seq_k fun _ _ => ?_
                                      | (refine tr_region ?_; simp only [go_sem, List.getElem?_toArray, str_beq, reduceCtorEq, Nat.reduceEqDiff, Nat.reduceLT, Nat.reduceLeDiff, Nat.reduceAdd, Nat.reduceMul, Nat.reduceSub, Nat.reduceBEq, ↓reduceIte, bne_self_eq_false, Bool.and_false, Bool.false_and, Bool.true_or, Bool.false_or])
                                      | refine k_of (by assumption) ?_
                                      | refine tr_block ?_
                                      | refine tr_scope ?_
                                      | (refine tr_skip ?_; try simp only [ex_seq, ex_block])
                                      | (refine tr_label ?_; try simp only [ex_seq, ex_block])
                                      | (refine tr_exit ?_; try simp only [ex_seq_exit, ex_block_exit, Nat.reduceEqDiff, if_true, if_false, ex_seq, ex_block, reduceCtorEq, ↓reduceIte])
                                      | (refine tr_ret ?_; try simp only [ex_seq_ret, ex_block_ret]))
                                  refine (hQ _ _ [bA false] ?_ (fun m => ?_)).2 <;> simp only [go_sem, List.getElem?_toArray, str_beq, reduceCtorEq, Nat.reduceEqDiff, Nat.reduceLT, Nat.reduceLeDiff, Nat.reduceAdd, Nat.reduceMul, Nat.reduceSub, Nat.reduceBEq, ↓reduceIte, bne_self_eq_false, Bool.and_false, Bool.false_and, Bool.true_or, Bool.false_or, Tryd.f12,]
                                · cases hf
                              · cases hf
                            | false =>
                              cases h2 : lightA x.head with
                              | false =>
                                have hr : lightP p = false := by
                                  have hg : gGr x = false := by simp [gGr, h1, h2]
                                  simp [lightP, hbad hg]
                                rw [hr] at hQ
                                repeat (first
                                    | refine tr_seq_k fun _ _ => ?_
                                    | (refine tr_region ?_; simp only [go_sem, List.getElem?_toArray, str_beq, reduceCtorEq, Nat.reduceEqDiff, Nat.reduceLT, Nat.reduceLeDiff, Nat.reduceAdd, Nat.reduceMul, Nat.reduceSub, Nat.reduceBEq, ↓reduceIte, bne_self_eq_false, Bool.and_false, Bool.false_and, Bool.true_or, Bool.false_or, e1])
                                    | refine k_of (by assumption) ?_
                                    | refine tr_block ?_
                                    | refine tr_scope ?_
                                    | (refine tr_skip ?_; try simp only [ex_seq, ex_block])
                                    | (refine tr_label ?_; try simp only [ex_seq, ex_block])
                                    | (refine tr_exit ?_; try simp only [ex_seq_exit, ex_block_exit, Nat.reduceEqDiff, if_true, if_false, ex_seq, ex_block, reduceCtorEq, ↓reduceIte])
                                    | (refine tr_ret ?_; try simp only [ex_seq_ret, ex_block_ret]))
                                refine tr_cond rfl (fun ht => ?_) (fun hf => ?_)
                                · repeat (first
                                      | refine tr_seq_k fun _ _ => ?_
                                      | (refine tr_region ?_; simp only [go_sem, List.getElem?_toArray, str_beq, reduceCtorEq, Nat.reduceEqDiff, Nat.reduceLT, Nat.reduceLeDiff, Nat.reduceAdd, Nat.reduceMul, Nat.reduceSub, Nat.reduceBEq, ↓reduceIte, bne_self_eq_false, Bool.and_false, Bool.false_and, Bool.true_or, Bool.false_or, ix, h1, h2])
                                      | (refine call_of (lightA_does x.head) ?_ ?_
                                         · first | rfl | simp only [go_sem, List.getElem?_toArray, str_beq, reduceCtorEq, Nat.reduceEqDiff, Nat.reduceLT, Nat.reduceLeDiff, Nat.reduceAdd, Nat.reduceMul, Nat.reduceSub, Nat.reduceBEq, ↓reduceIte, bne_self_eq_false, Bool.and_false, Bool.false_and, Bool.true_or, Bool.false_or, ix, h1, h2, shut_col]
                                         simp only [go_sem, List.getElem?_toArray, str_beq, reduceCtorEq, Nat.reduceEqDiff, Nat.reduceLT, Nat.reduceLeDiff, Nat.reduceAdd, Nat.reduceMul, Nat.reduceSub, Nat.reduceBEq, ↓reduceIte, bne_self_eq_false, Bool.and_false, Bool.false_and, Bool.true_or, Bool.false_or, ix, h1, h2])
                                      | (refine call_of (lightAtoms_does x.body 9 x.ex (by decide)) ?_ ?_
                                         · first | rfl | simp only [go_sem, List.getElem?_toArray, str_beq, reduceCtorEq, Nat.reduceEqDiff, Nat.reduceLT, Nat.reduceLeDiff, Nat.reduceAdd, Nat.reduceMul, Nat.reduceSub, Nat.reduceBEq, ↓reduceIte, bne_self_eq_false, Bool.and_false, Bool.false_and, Bool.true_or, Bool.false_or, ix, h1, h2, shut_col]
                                         simp only [go_sem, List.getElem?_toArray, str_beq, reduceCtorEq, Nat.reduceEqDiff, Nat.reduceLT, Nat.reduceLeDiff, Nat.reduceAdd, Nat.reduceMul, Nat.reduceSub, Nat.reduceBEq, ↓reduceIte, bne_self_eq_false, Bool.and_false, Bool.false_and, Bool.true_or, Bool.false_or, ix, h1, h2])
                                      | refine k_of (by assumption) ?_
                                      | refine tr_block ?_
                                      | refine tr_scope ?_
                                      | (refine tr_skip ?_; try simp only [ex_seq, ex_block])
                                      | (refine tr_label ?_; try simp only [ex_seq, ex_block])
                                      | (refine tr_exit ?_; try simp only [ex_seq_exit, ex_block_exit, Nat.reduceEqDiff, if_true, if_false, ex_seq, ex_block, reduceCtorEq, ↓reduceIte])
                                      | (refine tr_ret ?_; try simp only [ex_seq_ret, ex_block_ret]))
                                  refine tr_cond rfl (fun ht => ?_) (fun hf => ?_)
                                  · repeat (first
                                        | refine tr_seq_k fun _ _ => ?_
                                        | (refine tr_region ?_; simp only [go_sem, List.getElem?_toArray, str_beq, reduceCtorEq, Nat.reduceEqDiff, Nat.reduceLT, Nat.reduceLeDiff, Nat.reduceAdd, Nat.reduceMul, Nat.reduceSub, Nat.reduceBEq, ↓reduceIte, bne_self_eq_false, Bool.and_false, Bool.false_and, Bool.true_or, Bool.false_or])
                                        | refine k_of (by assumption) ?_
                                        | refine tr_block ?_
                                        | refine tr_scope ?_
                                        | (refine tr_skip ?_; try simp only [ex_seq, ex_block])
                                        | (refine tr_label ?_; try simp only [ex_seq, ex_block])
                                        | (refine tr_exit ?_; try simp only [ex_seq_exit, ex_block_exit, Nat.reduceEqDiff, if_true, if_false, ex_seq, ex_block, reduceCtorEq, ↓reduceIte])
                                        | (refine tr_ret ?_; try simp only [ex_seq_ret, ex_block_ret]))
                                    refine (hQ _ _ [bA false] ?_ (fun m => ?_)).2 <;> simp only [go_sem, List.getElem?_toArray, str_beq, reduceCtorEq, Nat.reduceEqDiff, Nat.reduceLT, Nat.reduceLeDiff, Nat.reduceAdd, Nat.reduceMul, Nat.reduceSub, Nat.reduceBEq, ↓reduceIte, bne_self_eq_false, Bool.and_false, Bool.false_and, Bool.true_or, Bool.false_or, Tryd.f12,]
                                  · cases hf
                                · cases hf
                              | true =>
                                cases h3 : lightAs x.body 9 with
                                | false =>
                                  have hr : lightP p = false := by
                                    have hg : gGr x = false := by simp [gGr, h1, h2, h3]
                                    simp [lightP, hbad hg]
                                  rw [hr] at hQ
                                  repeat (first
                                      | refine tr_seq_k fun _ _ => ?_
                                      | (refine tr_region ?_; simp only [go_sem, List.getElem?_toArray, str_beq, reduceCtorEq, Nat.reduceEqDiff, Nat.reduceLT, Nat.reduceLeDiff, Nat.reduceAdd, Nat.reduceMul, Nat.reduceSub, Nat.reduceBEq, ↓reduceIte, bne_self_eq_false, Bool.and_false, Bool.false_and, Bool.true_or, Bool.false_or, e1])
                                      | refine k_of (by assumption) ?_
                                      | refine tr_block ?_
                                      | refine tr_scope ?_
                                      | (refine tr_skip ?_; try simp only [ex_seq, ex_block])
                                      | (refine tr_label ?_; try simp only [ex_seq, ex_block])
                                      | (refine tr_exit ?_; try simp only [ex_seq_exit, ex_block_exit, Nat.reduceEqDiff, if_true, if_false, ex_seq, ex_block, reduceCtorEq, ↓reduceIte])
                                      | (refine tr_ret ?_; try simp only [ex_seq_ret, ex_block_ret]))
                                  refine tr_cond rfl (fun ht => ?_) (fun hf => ?_)
                                  · repeat (first
                                        | refine tr_seq_k fun _ _ => ?_
                                        | (refine tr_region ?_; simp only [go_sem, List.getElem?_toArray, str_beq, reduceCtorEq, Nat.reduceEqDiff, Nat.reduceLT, Nat.reduceLeDiff, Nat.reduceAdd, Nat.reduceMul, Nat.reduceSub, Nat.reduceBEq, ↓reduceIte, bne_self_eq_false, Bool.and_false, Bool.false_and, Bool.true_or, Bool.false_or, ix, h1, h2, h3])
                                        | (refine call_of (lightA_does x.head) ?_ ?_
                                           · first | rfl | simp only [go_sem, List.getElem?_toArray, str_beq, reduceCtorEq, Nat.reduceEqDiff, Nat.reduceLT, Nat.reduceLeDiff, Nat.reduceAdd, Nat.reduceMul, Nat.reduceSub, Nat.reduceBEq, ↓reduceIte, bne_self_eq_false, Bool.and_false, Bool.false_and, Bool.true_or, Bool.false_or, ix, h1, h2, h3, shut_col]
                                           simp only [go_sem, List.getElem?_toArray, str_beq, reduceCtorEq, Nat.reduceEqDiff, Nat.reduceLT, Nat.reduceLeDiff, Nat.reduceAdd, Nat.reduceMul, Nat.reduceSub, Nat.reduceBEq, ↓reduceIte, bne_self_eq_false, Bool.and_false, Bool.false_and, Bool.true_or, Bool.false_or, ix, h1, h2, h3])
                                        | (refine call_of (lightAtoms_does x.body 9 x.ex (by decide)) ?_ ?_
                                           · first | rfl | simp only [go_sem, List.getElem?_toArray, str_beq, reduceCtorEq, Nat.reduceEqDiff, Nat.reduceLT, Nat.reduceLeDiff, Nat.reduceAdd, Nat.reduceMul, Nat.reduceSub, Nat.reduceBEq, ↓reduceIte, bne_self_eq_false, Bool.and_false, Bool.false_and, Bool.true_or, Bool.false_or, ix, h1, h2, h3, shut_col]
                                           simp only [go_sem, List.getElem?_toArray, str_beq, reduceCtorEq, Nat.reduceEqDiff, Nat.reduceLT, Nat.reduceLeDiff, Nat.reduceAdd, Nat.reduceMul, Nat.reduceSub, Nat.reduceBEq, ↓reduceIte, bne_self_eq_false, Bool.and_false, Bool.false_and, Bool.true_or, Bool.false_or, ix, h1, h2, h3])
                                        | refine k_of (by assumption) ?_
                                        | refine tr_block ?_
                                        | refine tr_scope ?_
                                        | (refine tr_skip ?_; try simp only [ex_seq, ex_block])
                                        | (refine tr_label ?_; try simp only [ex_seq, ex_block])
                                        | (refine tr_exit ?_; try simp only [ex_seq_exit, ex_block_exit, Nat.reduceEqDiff, if_true, if_false, ex_seq, ex_block, reduceCtorEq, ↓reduceIte])
                                        | (refine tr_ret ?_; try simp only [ex_seq_ret, ex_block_ret]))
                                    refine tr_cond rfl (fun ht => ?_) (fun hf => ?_)
                                    · repeat (first
                                          | refine tr_seq_k fun _ _ => ?_
                                          | (refine tr_region ?_; simp only [go_sem, List.getElem?_toArray, str_beq, reduceCtorEq, Nat.reduceEqDiff, Nat.reduceLT, Nat.reduceLeDiff, Nat.reduceAdd, Nat.reduceMul, Nat.reduceSub, Nat.reduceBEq, ↓reduceIte, bne_self_eq_false, Bool.and_false, Bool.false_and, Bool.true_or, Bool.false_or])
                                          | refine k_of (by assumption) ?_
                                          | refine tr_block ?_
                                          | refine tr_scope ?_
                                          | (refine tr_skip ?_; try simp only [ex_seq, ex_block])
                                          | (refine tr_label ?_; try simp only [ex_seq, ex_block])
                                          | (refine tr_exit ?_; try simp only [ex_seq_exit, ex_block_exit, Nat.reduceEqDiff, if_true, if_false, ex_seq, ex_block, reduceCtorEq, ↓reduceIte])
                                          | (refine tr_ret ?_; try simp only [ex_seq_ret, ex_block_ret]))
                                      refine (hQ _ _ [bA false] ?_ (fun m => ?_)).2 <;> simp only [go_sem, List.getElem?_toArray, str_beq, reduceCtorEq, Nat.reduceEqDiff, Nat.reduceLT, Nat.reduceLeDiff, Nat.reduceAdd, Nat.reduceMul, Nat.reduceSub, Nat.reduceBEq, ↓reduceIte, bne_self_eq_false, Bool.and_false, Bool.false_and, Bool.true_or, Bool.false_or, Tryd.f12,]
                                    · cases hf
                                  · cases hf
                                | true =>
                                  have hg : gGr x = true := by simp [gGr, h1, h2, h3]
                                  repeat (first
                                      | refine tr_seq_k fun _ _ => ?_
                                      | (refine tr_region ?_; simp only [go_sem, List.getElem?_toArray, str_beq, reduceCtorEq, Nat.reduceEqDiff, Nat.reduceLT, Nat.reduceLeDiff, Nat.reduceAdd, Nat.reduceMul, Nat.reduceSub, Nat.reduceBEq, ↓reduceIte, bne_self_eq_false, Bool.and_false, Bool.false_and, Bool.true_or, Bool.false_or, e1])
                                      | refine k_of (by assumption) ?_
                                      | refine tr_block ?_
                                      | refine tr_scope ?_
                                      | (refine tr_skip ?_; try simp only [ex_seq, ex_block])
                                      | (refine tr_label ?_; try simp only [ex_seq, ex_block])
                                      | (refine tr_exit ?_; try simp only [ex_seq_exit, ex_block_exit, Nat.reduceEqDiff, if_true, if_false, ex_seq, ex_block, reduceCtorEq, ↓reduceIte])
                                      | (refine tr_ret ?_; try simp only [ex_seq_ret, ex_block_ret]))
                                  refine tr_cond rfl (fun ht => ?_) (fun hf => ?_)
                                  · repeat (first
                                        | refine tr_seq_k fun _ _ => ?_
                                        | (refine tr_region ?_; simp only [go_sem, List.getElem?_toArray, str_beq, reduceCtorEq, Nat.reduceEqDiff, Nat.reduceLT, Nat.reduceLeDiff, Nat.reduceAdd, Nat.reduceMul, Nat.reduceSub, Nat.reduceBEq, ↓reduceIte, bne_self_eq_false, Bool.and_false, Bool.false_and, Bool.true_or, Bool.false_or, ix, h1, h2, h3])
                                        | (refine call_of (lightA_does x.head) ?_ ?_
                                           · first | rfl | simp only [go_sem, List.getElem?_toArray, str_beq, reduceCtorEq, Nat.reduceEqDiff, Nat.reduceLT, Nat.reduceLeDiff, Nat.reduceAdd, Nat.reduceMul, Nat.reduceSub, Nat.reduceBEq, ↓reduceIte, bne_self_eq_false, Bool.and_false, Bool.false_and, Bool.true_or, Bool.false_or, ix, h1, h2, h3, shut_col]
                                           simp only [go_sem, List.getElem?_toArray, str_beq, reduceCtorEq, Nat.reduceEqDiff, Nat.reduceLT, Nat.reduceLeDiff, Nat.reduceAdd, Nat.reduceMul, Nat.reduceSub, Nat.reduceBEq, ↓reduceIte, bne_self_eq_false, Bool.and_false, Bool.false_and, Bool.true_or, Bool.false_or, ix, h1, h2, h3])
                                        | (refine call_of (lightAtoms_does x.body 9 x.ex (by decide)) ?_ ?_
                                           · first | rfl | simp only [go_sem, List.getElem?_toArray, str_beq, reduceCtorEq, Nat.reduceEqDiff, Nat.reduceLT, Nat.reduceLeDiff, Nat.reduceAdd, Nat.reduceMul, Nat.reduceSub, Nat.reduceBEq, ↓reduceIte, bne_self_eq_false, Bool.and_false, Bool.false_and, Bool.true_or, Bool.false_or, ix, h1, h2, h3, shut_col]
                                           simp only [go_sem, List.getElem?_toArray, str_beq, reduceCtorEq, Nat.reduceEqDiff, Nat.reduceLT, Nat.reduceLeDiff, Nat.reduceAdd, Nat.reduceMul, Nat.reduceSub, Nat.reduceBEq, ↓reduceIte, bne_self_eq_false, Bool.and_false, Bool.false_and, Bool.true_or, Bool.false_or, ix, h1, h2, h3])
                                        | refine k_of (by assumption) ?_
                                        | refine tr_block ?_
                                        | refine tr_scope ?_
                                        | (refine tr_skip ?_; try simp only [ex_seq, ex_block])
                                        | (refine tr_label ?_; try simp only [ex_seq, ex_block])
                                        | (refine tr_exit ?_; try simp only [ex_seq_exit, ex_block_exit, Nat.reduceEqDiff, if_true, if_false, ex_seq, ex_block, reduceCtorEq, ↓reduceIte])
                                        | (refine tr_ret ?_; try simp only [ex_seq_ret, ex_block_ret]))
                                    refine tr_cond rfl (fun ht => ?_) (fun hf => ?_)
                                    · cases ht
                                    · repeat (first
                                          | refine tr_seq_k fun _ _ => ?_
                                          | (refine tr_region ?_; simp only [go_sem, List.getElem?_toArray, str_beq, reduceCtorEq, Nat.reduceEqDiff, Nat.reduceLT, Nat.reduceLeDiff, Nat.reduceAdd, Nat.reduceMul, Nat.reduceSub, Nat.reduceBEq, ↓reduceIte, bne_self_eq_false, Bool.and_false, Bool.false_and, Bool.true_or, Bool.false_or, ws])
                                          | refine k_of (by assumption) ?_
                                          | refine tr_block ?_
                                          | refine tr_scope ?_
                                          | (refine tr_skip ?_; try simp only [ex_seq, ex_block])
                                          | (refine tr_label ?_; try simp only [ex_seq, ex_block])
                                          | (refine tr_exit ?_; try simp only [ex_seq_exit, ex_block_exit, Nat.reduceEqDiff, if_true, if_false, ex_seq, ex_block, reduceCtorEq, ↓reduceIte])
                                          | (refine tr_ret ?_; try simp only [ex_seq_ret, ex_block_ret]))
                                      exact hK (k + 1) _ _ ⟨hkl, hnext hg⟩ ⟨⟨rfl, rfl, trivial⟩, Keep.refl _, rfl, rfl, Nat.le_refl _, Nat.le_refl _⟩ (by omega)
                                  · cases hf
                          · have e1 : decide ((k : Int) < (p.grants.length : Nat)) = false := decide_eq_false (by omega)
                            have hA3 : p.grants.all gGr = true := all_ok fun j hj => hok j hj (by omega)
                            repeat (first
                                | refine tr_seq_k fun _ _ => ?_
                                | (refine tr_region ?_; simp only [go_sem, List.getElem?_toArray, str_beq, reduceCtorEq, Nat.reduceEqDiff, Nat.reduceLT, Nat.reduceLeDiff, Nat.reduceAdd, Nat.reduceMul, Nat.reduceSub, Nat.reduceBEq, ↓reduceIte, bne_self_eq_false, Bool.and_false, Bool.false_and, Bool.true_or, Bool.false_or, e1])
                                | refine k_of (by assumption) ?_
                                | refine tr_block ?_
                                | refine tr_scope ?_
                                | (refine tr_skip ?_; try simp only [ex_seq, ex_block])
                                | (refine tr_label ?_; try simp only [ex_seq, ex_block])
                                | (refine tr_exit ?_; try simp only [ex_seq_exit, ex_block_exit, Nat.reduceEqDiff, if_true, if_false, ex_seq, ex_block, reduceCtorEq, ↓reduceIte])
                                | (refine tr_ret ?_; try simp only [ex_seq_ret, ex_block_ret]))
                            refine tr_cond rfl (fun ht => ?_) (fun hf => ?_)
                            · cases ht
                            · repeat (first
                                  | refine tr_seq_k fun _ _ => ?_
                                  | (refine tr_region ?_; simp only [go_sem, List.getElem?_toArray, str_beq, reduceCtorEq, Nat.reduceEqDiff, Nat.reduceLT, Nat.reduceLeDiff, Nat.reduceAdd, Nat.reduceMul, Nat.reduceSub, Nat.reduceBEq, ↓reduceIte, bne_self_eq_false, Bool.and_false, Bool.false_and, Bool.true_or, Bool.false_or])
                                  | refine k_of (by assumption) ?_
                                  | refine tr_block ?_
                                  | refine tr_scope ?_
                                  | (refine tr_skip ?_; try simp only [ex_seq, ex_block])
                                  | (refine tr_label ?_; try simp only [ex_seq, ex_block])
                                  | (refine tr_exit ?_; try simp only [ex_seq_exit, ex_block_exit, Nat.reduceEqDiff, if_true, if_false, ex_seq, ex_block, reduceCtorEq, ↓reduceIte])
                                  | (refine tr_ret ?_; try simp only [ex_seq_ret, ex_block_ret]))
                              have hr : lightP p = true := by simp [lightP, hT, d2, d3, d4, d5, hA0, hA1, hA2, hA3]
                              rw [hr] at hQ
                              refine (hQ _ _ [bA true] ?_ (fun m => ?_)).2 <;> simp only [go_sem, List.getElem?_toArray, str_beq, reduceCtorEq, Nat.reduceEqDiff, Nat.reduceLT, Nat.reduceLeDiff, Nat.reduceAdd, Nat.reduceMul, Nat.reduceSub, Nat.reduceBEq, ↓reduceIte, bne_self_eq_false, Bool.and_false, Bool.false_and, Bool.true_or, Bool.false_or, Tryd.f12,]
end Go.Proofs.YtaeehadibckcjaaDoor

/-
  Chapter 11: a page's String; a page in memory, and what put, line and body add to it.
-/
namespace Go.Proofs.YtaeehadibckcjaaDoor
open Go.RowKit Go.Vs Go.Vs.Ab
set_option maxRecDepth 100000
set_option maxHeartbeats 4000000
theorem cellsBy : Tryd.prog.cellsOf 5 = 1 := by kernel_rfl
theorem strCells_eq (o : ByteArray) : Lib.byteCells o.data.toList = Lib.strCells o := by simp [Lib.byteCells, Lib.strCells]
def strM (m : Mm) : AV → Mm
  | .lsl j _ _ _ => { m with hp := m.hp.set j ⟨false, [.dead]⟩ }
  | _ => m
theorem str_gives {m : Mm} {b : Nat} {u : Bool} {c : AV} {o : ByteArray} (hb : m.hp[b]? = some ⟨false, [.bld 81 u c]⟩) (hc : BufIs 5 m c o) :
    GivesW Tryd.prog 38 [.ptr b 0] m (sA o) (strM m c) := by
  refine ⟨callable_of Tryd.func38 (by kernel_rfl), fun X W0 w vs M hr => ?_⟩
  obtain ⟨β, v, g1, g2, g3, g4, g5⟩ := M.bld hb
  have hvs : vs = #[.pointer (some ⟨β, 0, none⟩)] := by
    obtain ⟨x, hv, r1⟩ := reps1 hr
    cases r1 with
    | ptr r1 =>
    rw [g1] at r1
    injection r1 with r1
    subst r1
    exact Array.ext' hv
  subst hvs
  rcases hc with ⟨ho, rfl⟩ | ⟨j, rfl, hj, ho⟩
  · obtain rfl := size0 ho
    cases g4 with
    | c g4 =>
    cases g4
    have hUS := fun (W : World) (q : Option Addr) => Lib.run_unsafeString_none (P := Tryd.prog) W 104 3 9 q
    have c1 : w.drew.cell? ⟨β, 1, none⟩ = some (.slice none 0 0) := by
      have : w.drew.heap[β]? = some (.cells #[bptr u β, .slice none 0 0] 81 (0, 0)) := g3
      rw [Lib.cell_of_heap this]; rfl
    have hSD : (Builtin.unsafeSliceData_ #[77] 104 #[.slice none 0 0]).run Tryd.prog w.drew = .ok (.pointer none) w.drew := rfl
    have HM := Lib.hid (M.drew)
    clear M g5 g3
    go_enter Tryd.func38, Tryd.ntmps38
    go_wp2
    go_region
    all_goals (go_wp2; go_ret; exact ⟨_, X, rfl, Mem.Le.refl _ _, .c (.v rfl), HM.out⟩)
  · cases g4 with
    | lsl hl hoff hn hcap hrm =>
    rename_i γ off cap
    have hoff := hoff (by omega)
    rw [Nat.zero_mul] at hoff
    subst hoff
    obtain ⟨γ', arr, k1, k2, e1, e2, e3, e5⟩ := M.byt hj
    rw [hl] at k1
    injection k1 with k1
    subst k1
    have hlt : j < m.hp.length := (List.getElem?_eq_some_iff.1 hj).1
    have htake : ∀ (q : Nat) (x : UInt8), o.data.toList[q]? = some x → w.drew.cell? ((⟨γ, 0, none⟩ : Addr).add q) = some (.int .u8 x.toNat) := fun q x hx => by
      rw [add_none, Nat.zero_add]
      have hq : (Lib.strCells o)[q]? = some (.int .u8 x.toNat) := by
        simp [Lib.strCells, List.getElem?_map, hx]
      rw [← e3, List.getElem?_take] at hq
      split at hq
      · exact cell_of_heap (w := w.drew) (t := 5) (f := (0, 0)) e1 (by simpa using hq)
      · cases hq
    have hsz : o.data.toList.length = o.size := by rw [Array.length_toList]; rfl
    have hne : o.data.toList ≠ [] := fun e => by rw [e] at hsz; simp at hsz; omega
    have c1 : w.drew.cell? ⟨β, 1, none⟩ = some (.slice (some ⟨γ, 0, none⟩) o.size cap) := by
      have : w.drew.heap[β]? = some (.cells #[bptr u β, .slice (some ⟨γ, 0, none⟩) o.size cap] 81 (0, 0)) := g3
      rw [Lib.cell_of_heap this]; rfl
    have hSD : (Builtin.unsafeSliceData_ #[77] 104 #[.slice (some ⟨γ, 0, none⟩) o.size cap]).run Tryd.prog w.drew = .ok (.pointer (some ⟨γ, 0, none⟩)) w.drew :=
      Lib.run_unsafeSliceData_row _ _ _ _ _ _ (by omega)
    have hUS : (Builtin.unsafeString_ #[104, 3] 9 #[.pointer (some ⟨γ, 0, none⟩), .int .i64 o.size]).run Tryd.prog w.drew = .ok (.string o) (w.drew.freeze ⟨γ, 0, none⟩ o.size) := by
      have h := Lib.run_unsafeString_row (P := Tryd.prog) w.drew 104 3 9 5 Tryd.underlying104 cellsBy γ arr.size (by
        have e1' : w.drew.heap[γ]? = some (.cells arr 5 (0, 0)) := e1
        simp [World.shape?, e1']) o.data.toList hne (by omega) (by have := hcap; unfold maxLen at this; omega) htake
      rw [hsz] at h
      exact h
    have hne0 : o.size ≠ 0 := by omega
    have hfz : (w.drew.freeze ⟨γ, 0, none⟩ o.size).heap[γ]? = some (.cells arr 5 (0, 0 + o.size)) := by
      have e1' : w.drew.heap[γ]? = some (.cells arr 5 (0, 0)) := e1
      simp [World.freeze, hne0, Array.getElem?_modify, e1']
    have hlocs : ∀ i bi, X.loc i = some γ → (m.hp.set j ⟨false, [.dead]⟩)[i]? = some bi → bi.isDead := fun i bi h1 h2 => by
      by_cases hji : i = j
      · subst hji
        rw [List.getElem?_set_self hlt] at h2
        injection h2 with h2
        rw [← h2]; rfl
      · rw [List.getElem?_set_ne (Ne.symm hji)] at h2
        exact M.alone' h1 hl h2 hj byt_alive hji
    have hown : ∀ k T, X.own k = some T → T.g ≠ γ := fun k T h e => by
      have hk := M.odom k T h
      obtain ⟨T', q1, _, _, _, _, _, _, _, q10⟩ := M.toks k m.hw[k] (List.getElem?_eq_getElem hk)
      rw [h] at q1
      injection q1 with q1
      subst q1
      exact q10 j (e ▸ hl)
    have M2 := (M.drew.kill hlt).deadFreeze (n := 0) (w' := w.drew.freeze ⟨γ, 0, none⟩ o.size) (z := (0, 0)) k2 e1 e5 hlocs hown hfz (fun g hg => by
      simp only [World.freeze, hne0, if_false, Array.getElem?_modify]
      rw [if_neg (fun e => hg e.symm)]) (by simp [World.freeze, hne0]) (by simp [World.freeze, hne0])
    have HM := Lib.hid M2
    clear M M2 g5 g3 hfz hlocs hown e1 e2 e3 e5 htake
    go_enter Tryd.func38, Tryd.ntmps38
    go_wp2
    go_region
    all_goals (go_wp2; go_ret; exact ⟨_, X, rfl, Mem.Le.refl _ _, .c (.v rfl), HM.out⟩)
/-! ### a page -/
structure PgM (m : Mm) (b : Nat) (o : ByteArray) : Prop where
  at_ : ∃ u c, m.hp[b]? = some ⟨false, [.bld 81 u c]⟩ ∧ BufIs 5 m c o ∧ low m.hp.length m.hw.length c = true
  wf : lowB m.hp.length m.hw.length m.hp = true
structure KpP (m m' : Mm) : Prop where
  hw : m'.hw = m.hw
  len : m.hp.length ≤ m'.hp.length
  old : ∀ (i : Nat) (blk : Blk), plainB blk.cs = true → m.hp[i]? = some blk → m'.hp[i]? = some blk
theorem KpP.refl (m : Mm) : KpP m m := ⟨rfl, Nat.le_refl _, fun _ _ _ h => h⟩
theorem KpP.trans {m1 m2 m3 : Mm} (h : KpP m1 m2) (k : KpP m2 m3) : KpP m1 m3 := ⟨k.hw.trans h.hw, Nat.le_trans h.len k.len, fun i blk hp hi => k.old i blk hp (h.old i blk hp hi)⟩
theorem PgM.lt {m : Mm} {b : Nat} {o : ByteArray} (h : PgM m b o) : b < m.hp.length := by
  obtain ⟨u, c, h1, _⟩ := h.at_
  exact (List.getElem?_eq_some_iff.1 h1).1
theorem bufIs_low {e : TypeId} {m : Mm} {c : AV} {o : ByteArray} (h : BufIs e m c o) : low m.hp.length m.hw.length c = true := by
  rcases h with ⟨_, rfl⟩ | ⟨j, rfl, hj, _⟩
  · rfl
  · simp only [low, Nat.blt_eq]
    exact (List.getElem?_eq_some_iff.1 hj).1
theorem ws_page {m : Mm} {b : Nat} {o : ByteArray} (h : PgM m b o) (s : ByteArray) (hlen : o.size + s.size ≤ 140737488355328) :
    ∃ m', GivesW Tryd.prog 69 [.ptr b 0, sA s] m (.tup [iA (s.size : Nat), .c (.v .nilIface)]) m' ∧ PgM m' b (o ++ s) ∧ KpP m m' := by
  obtain ⟨u, c, hb, hc, hlow⟩ := h.at_
  refine ⟨_, ws_gives hb hc s hlen, ?_⟩
  have hblt := (List.getElem?_eq_some_iff.1 hb).1
  unfold wsM
  obtain ⟨m1, hm1⟩ : ∃ m1 : Mm, m1 = { m with hp := m.hp.set b ⟨false, [.bld 81 true c]⟩ } := ⟨_, rfl⟩
  have hb1 : m1.hp[b]? = some ⟨false, [.bld 81 true c]⟩ := by rw [hm1]; exact List.getElem?_set_self hblt
  have hc1 : BufIs 5 m1 c o := by rw [hm1]; exact bufIs_set hb hc
  have hwf1 : lowB m1.hp.length m1.hw.length m1.hp = true := by
    rw [hm1, List.length_set]
    exact lowB_setb (by simp only [lows, low, hlow, Bool.and_self]) _ h.wf
  have hl1 : m1.hp.length = m.hp.length := by rw [hm1]; exact List.length_set
  have hw1 : m1.hw = m.hw := by rw [hm1]
  have ho1 : ∀ (i : Nat) (blk : Blk), plainB blk.cs = true → m.hp[i]? = some blk → m1.hp[i]? = some blk ∧ i ≠ b ∧ ∀ n, c ≠ .lsl i 0 n 1 := fun i blk hp hi => by
    have hne : i ≠ b := fun e => by
      subst e
      rw [hb] at hi
      injection hi with hi
      subst hi
      cases hp
    refine ⟨by rw [hm1]; show (m.hp.set b _)[i]? = _; rw [List.getElem?_set_ne (Ne.symm hne)]; exact hi, hne, fun n e => ?_⟩
    rcases hc with ⟨_, h⟩ | ⟨j, h, h2, _⟩
    · rw [h] at e; cases e
    · rw [h] at e
      injection e with e
      subst e
      rw [hi] at h2
      injection h2 with h2
      subst h2
      cases hp
  rw [← hm1]
  clear hm1
  have ho2 : ∀ (i : Nat) (blk : Blk), plainB blk.cs = true → m.hp[i]? = some blk → (apS 5 m1 c o s).2.hp[i]? = some blk ∧ i ≠ b := fun i blk hp hi => by
    obtain ⟨q1, q2, q3⟩ := ho1 i blk hp hi
    exact ⟨apS_old hc1 q1 q3, q2⟩
  have hb2 := apS_old (s := s) hc1 hb1 (bufIs_ne hb1 hc1)
  have hc2 := apS_bufIs (s := s) hc1
  have hwf2 := apS_wf (s := s) hc1 hwf1
  have hlen2 := apS_len (s := s) hc1
  have hhw2 := apS_hw (s := s) hc1
  generalize apS 5 m1 c o s = r at *
  have hb2lt := (List.getElem?_eq_some_iff.1 hb2).1
  refine ⟨⟨⟨true, r.1, List.getElem?_set_self hb2lt, bufIs_set hb2 hc2, ?_⟩, ?_⟩, ⟨hhw2.trans hw1, ?_, fun i blk hp hi => ?_⟩⟩
  · rw [List.length_set]
    exact bufIs_low hc2
  · rw [List.length_set]
    exact lowB_setb (by simp only [lows, low, bufIs_low hc2, Bool.and_self]) _ hwf2
  · show m.hp.length ≤ (r.2.hp.set b _).length
    rw [List.length_set]
    omega
  · obtain ⟨q1, q2⟩ := ho2 i blk hp hi
    show (r.2.hp.set b _)[i]? = _
    rw [List.getElem?_set_ne (Ne.symm q2)]
    exact q1
theorem str_page {m : Mm} {b : Nat} {o : ByteArray} (h : PgM m b o) : ∃ m', GivesW Tryd.prog 38 [.ptr b 0] m (sA o) m' := by
  obtain ⟨u, c, hb, hc, _⟩ := h.at_
  exact ⟨_, str_gives hb hc⟩
def catB : List ByteArray → ByteArray
  | [] => ⟨#[]⟩
  | s :: r => s ++ catB r
theorem catB_snoc (l : List ByteArray) (s : ByteArray) : catB (l ++ [s]) = catB l ++ s := by
  induction l with
  | nil =>
    show s ++ ⟨#[]⟩ = ⟨#[]⟩ ++ s
    rw [app_none rfl, none_app rfl]
  | cons x r ih => simp only [List.cons_append, catB, ih, ByteArray.append_assoc]
theorem catB_take {l : List ByteArray} {k : Nat} (hk : k < l.length) : catB (l.take (k + 1)) = catB (l.take k) ++ l[k] := by
  rw [List.take_succ_eq_append_getElem hk, catB_snoc]
theorem idxS' {ex : Bool} {l : List ByteArray} {k : Nat} (h : k < l.length) : aIndexAddr Tryd.prog 23 (slS ex l) (.c (.v (.int .i64 (k : Int)))) = some (.cptr (stC l[k] ++ (l.drop (k + 1)).flatMap stC)) :=
  idx_R stC 1 (fun _ => rfl) Tryd.underlying23 sz9 (by decide) h
theorem lowP {b i j : Nat} {ex : Bool} {l : List ByteArray} {n : Int} (h : b < i) : lowF i j [(0, .ptr b 0), (6, slS ex l), (7, iA n), (8, iA n)] = true := by
  simp only [lowF, slS, slR, low, Bool.and_true, Nat.blt_eq]
  exact h
structure Chn (m : Mm) (b : Nat) (o : ByteArray) (l : List ByteArray) (n : Nat) (ms : Nat → Mm) : Prop where
  zero : ms 0 = m
  pg : ∀ k, k ≤ n → PgM (ms k) b (o ++ catB (l.take k)) ∧ KpP m (ms k)
  step : ∀ (k : Nat) (hk : k < l.length), k < n → GivesW Tryd.prog 69 [.ptr b 0, sA l[k]] (ms k) (.tup [iA (l[k].size : Nat), .c (.v .nilIface)]) (ms (k + 1))
theorem catB_le (l : List ByteArray) (k : Nat) : (catB (l.take k)).size ≤ (catB l).size := by
  have : catB l = catB (l.take k) ++ catB (l.drop k) := by
    have key : ∀ a b : List ByteArray, catB (a ++ b) = catB a ++ catB b := fun a b => by
      induction a with
      | nil => exact (none_app rfl).symm
      | cons x r ih => simp only [List.cons_append, catB, ih, ByteArray.append_assoc]
    rw [← key, List.take_append_drop]
  rw [this, app_size]
  omega
theorem chn_ex {m : Mm} {b : Nat} {o : ByteArray} (h : PgM m b o) (l : List ByteArray) (hlen : o.size + (catB l).size ≤ 140737488355328) : ∀ n, n ≤ l.length → ∃ ms, Chn m b o l n ms
  | 0, _ => ⟨fun _ => m, rfl, fun k hk => by
      obtain rfl : k = 0 := by omega
      exact ⟨by rw [List.take_zero, catB, app_none rfl]; exact h, KpP.refl m⟩, fun k hk h0 => absurd h0 (Nat.not_lt_zero _)⟩
  | n + 1, hn => by
    obtain ⟨ms, c⟩ := chn_ex h l hlen n (by omega)
    have hlt : n < l.length := by omega
    have h1 := catB_le l (n + 1)
    have h2 := catB_take hlt
    rw [h2, app_size] at h1
    obtain ⟨m', g1, g2, g3⟩ := ws_page (c.pg n (Nat.le_refl _)).1 l[n] (by rw [app_size]; omega)
    refine ⟨fun i => if i ≤ n then ms i else m', ?_, fun k hk => ?_, fun k hk hkn => ?_⟩
    · show (if 0 ≤ n then ms 0 else m') = m
      rw [if_pos (Nat.zero_le _)]
      exact c.zero
    · show PgM (if k ≤ n then ms k else m') b _ ∧ KpP m (if k ≤ n then ms k else m')
      by_cases hkn : k ≤ n
      · rw [if_pos hkn]
        exact c.pg k hkn
      · rw [if_neg hkn]
        obtain rfl : k = n + 1 := by omega
        rw [h2, ← ByteArray.append_assoc]
        exact ⟨g2, (c.pg n (Nat.le_refl _)).2.trans g3⟩
    · show GivesW _ _ _ (if k ≤ n then ms k else m') _ (if k + 1 ≤ n then ms (k + 1) else m')
      rw [if_pos (by omega)]
      by_cases hk2 : k + 1 ≤ n
      · rw [if_pos hk2]
        exact c.step k hk (by omega)
      · rw [if_neg hk2]
        obtain rfl : k = n := by omega
        exact g1
theorem put_page {m : Mm} {b : Nat} {o : ByteArray} (h : PgM m b o) (l : List ByteArray) (ex : Bool) (hl : l.length ≤ 1000000) (hlen : o.size + (catB l).size ≤ 140737488355328) :
    ∃ m', GivesW Tryd.prog 47 [.ptr b 0, slS ex l] m (.tup []) m' ∧ PgM m' b (o ++ catB l) ∧ KpP m m' := by
  obtain ⟨ms, c⟩ := chn_ex h l hlen l.length (Nat.le_refl _)
  have hfin := c.pg l.length (Nat.le_refl _)
  rw [List.take_of_length_le (Nat.le_refl _)] at hfin
  refine ⟨ms l.length, ?_, hfin⟩
  have hz := c.zero
  refine givesW_of' Tryd.func47 rfl (by kernel_rfl) Tryd.ntmps47 rfl rfl fun Q hQ => ?_
  repeat (first
      | refine tr_seq_k fun _ _ => ?_
      | (refine tr_region ?_; simp only [go_sem, List.getElem?_toArray, str_beq, reduceCtorEq, Nat.reduceEqDiff, Nat.reduceLT, Nat.reduceLeDiff, Nat.reduceAdd, Nat.reduceMul, Nat.reduceSub, Nat.reduceBEq, ↓reduceIte, bne_self_eq_false, Bool.and_false, Bool.false_and, Bool.true_or, Bool.false_or])
      | refine k_of (by assumption) ?_
      | refine tr_block ?_
      | refine tr_scope ?_
      | (refine tr_skip ?_; try simp only [ex_seq, ex_block])
      | (refine tr_label ?_; try simp only [ex_seq, ex_block])
      | (refine tr_exit ?_; try simp only [ex_seq_exit, ex_block_exit, Nat.reduceEqDiff, if_true, if_false, ex_seq, ex_block, reduceCtorEq, ↓reduceIte])
      | (refine tr_ret ?_; try simp only [ex_seq_ret, ex_block_ret]))
  refine tr_loop_k (σ := Nat) (fun k => [(0, .ptr b 0), (6, slS ex l), (7, iA l.length), (8, iA k)]) (fun k => ms k) (fun k => k ≤ l.length) (fun k => l.length - k) 0 (Nat.zero_le _) ⟨rfl, rfl, rfl, rfl, trivial⟩ hz.symm ?_
  rintro k hk K hK
  by_cases hkl : k < l.length
  · have d1 : decide ((k : Int) < (l.length : Nat)) = true := decide_eq_true (by omega)
    have ix := idxS' (ex := ex) hkl
    have ws := wrap_succ (show k ≤ 1000000000 by omega)
    have cW := c.step k hkl hkl
    have hp := c.pg (k + 1) hkl
    have hq := c.pg k hk
    have h0 := (c.pg 0 (Nat.zero_le _)).1.lt
    generalize l[k] = s at *
    repeat (first
        | refine tr_seq_k fun _ _ => ?_
        | (refine tr_region ?_; simp only [go_sem, List.getElem?_toArray, str_beq, reduceCtorEq, Nat.reduceEqDiff, Nat.reduceLT, Nat.reduceLeDiff, Nat.reduceAdd, Nat.reduceMul, Nat.reduceSub, Nat.reduceBEq, ↓reduceIte, bne_self_eq_false, Bool.and_false, Bool.false_and, Bool.true_or, Bool.false_or, d1])
        | refine k_of (by assumption) ?_
        | refine tr_block ?_
        | refine tr_scope ?_
        | (refine tr_skip ?_; try simp only [ex_seq, ex_block])
        | (refine tr_label ?_; try simp only [ex_seq, ex_block])
        | (refine tr_exit ?_; try simp only [ex_seq_exit, ex_block_exit, Nat.reduceEqDiff, if_true, if_false, ex_seq, ex_block, reduceCtorEq, ↓reduceIte])
        | (refine tr_ret ?_; try simp only [ex_seq_ret, ex_block_ret]))
    refine tr_cond rfl (fun ht => ?_) (fun hf => ?_)
    · repeat (first
          | refine tr_seq_k fun _ _ => ?_
          | (refine tr_region ?_; simp only [go_sem, List.getElem?_toArray, str_beq, reduceCtorEq, Nat.reduceEqDiff, Nat.reduceLT, Nat.reduceLeDiff, Nat.reduceAdd, Nat.reduceMul, Nat.reduceSub, Nat.reduceBEq, ↓reduceIte, bne_self_eq_false, Bool.and_false, Bool.false_and, Bool.true_or, Bool.false_or, ix, ws])
          | (refine call_givesW (cW) ?_; (try dsimp only); (try simp only [go_sem, List.getElem?_toArray, str_beq, reduceCtorEq, Nat.reduceEqDiff, Nat.reduceLT, Nat.reduceLeDiff, Nat.reduceAdd, Nat.reduceMul, Nat.reduceSub, Nat.reduceBEq, ↓reduceIte, bne_self_eq_false, Bool.and_false, Bool.false_and, Bool.true_or, Bool.false_or, ix, ws]))
          | refine k_of (by assumption) ?_
          | refine tr_block ?_
          | refine tr_scope ?_
          | (refine tr_skip ?_; try simp only [ex_seq, ex_block])
          | (refine tr_label ?_; try simp only [ex_seq, ex_block])
          | (refine tr_exit ?_; try simp only [ex_seq_exit, ex_block_exit, Nat.reduceEqDiff, if_true, if_false, ex_seq, ex_block, reduceCtorEq, ↓reduceIte])
          | (refine tr_ret ?_; try simp only [ex_seq_ret, ex_block_ret]))
      exact hK (k + 1) _ _ hkl ⟨⟨rfl, rfl, rfl, rfl, trivial⟩, Keep.refl _, lowP hp.1.lt, hp.1.wf, by rw [hz]; exact hp.2.len, by rw [hz, hp.2.hw]; exact Nat.le_refl _⟩ (by omega)
    · cases hf
  · have d1 : decide ((k : Int) < (l.length : Nat)) = false := decide_eq_false (by omega)
    obtain rfl : k = l.length := by omega
    repeat (first
        | refine tr_seq_k fun _ _ => ?_
        | (refine tr_region ?_; simp only [go_sem, List.getElem?_toArray, str_beq, reduceCtorEq, Nat.reduceEqDiff, Nat.reduceLT, Nat.reduceLeDiff, Nat.reduceAdd, Nat.reduceMul, Nat.reduceSub, Nat.reduceBEq, ↓reduceIte, bne_self_eq_false, Bool.and_false, Bool.false_and, Bool.true_or, Bool.false_or, d1])
        | refine k_of (by assumption) ?_
        | refine tr_block ?_
        | refine tr_scope ?_
        | (refine tr_skip ?_; try simp only [ex_seq, ex_block])
        | (refine tr_label ?_; try simp only [ex_seq, ex_block])
        | (refine tr_exit ?_; try simp only [ex_seq_exit, ex_block_exit, Nat.reduceEqDiff, if_true, if_false, ex_seq, ex_block, reduceCtorEq, ↓reduceIte])
        | (refine tr_ret ?_; try simp only [ex_seq_ret, ex_block_ret]))
    refine tr_cond rfl (fun ht => ?_) (fun hf => ?_)
    · cases ht
    · repeat (first
          | refine tr_seq_k fun _ _ => ?_
          | (refine tr_region ?_; simp only [go_sem, List.getElem?_toArray, str_beq, reduceCtorEq, Nat.reduceEqDiff, Nat.reduceLT, Nat.reduceLeDiff, Nat.reduceAdd, Nat.reduceMul, Nat.reduceSub, Nat.reduceBEq, ↓reduceIte, bne_self_eq_false, Bool.and_false, Bool.false_and, Bool.true_or, Bool.false_or])
          | refine k_of (by assumption) ?_
          | refine tr_block ?_
          | refine tr_scope ?_
          | (refine tr_skip ?_; try simp only [ex_seq, ex_block])
          | (refine tr_label ?_; try simp only [ex_seq, ex_block])
          | (refine tr_exit ?_; try simp only [ex_seq_exit, ex_block_exit, Nat.reduceEqDiff, if_true, if_false, ex_seq, ex_block, reduceCtorEq, ↓reduceIte])
          | (refine tr_ret ?_; try simp only [ex_seq_ret, ex_block_ret]))
      exact (hQ _ _ [] rfl rfl rfl).1
end Go.Proofs.YtaeehadibckcjaaDoor
