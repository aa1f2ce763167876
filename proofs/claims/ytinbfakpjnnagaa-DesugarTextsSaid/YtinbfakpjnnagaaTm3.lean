/-
  For every input the statement DesugarTexts returns true, and leaves its arguments as they were.
-/
import Derived.Test.YtinbfakpjnnagaaTm2
import Derived.Test.YtinbfakpjnnagaaTOpen
import Derived.SizedLaws
import Derived.Test.YtinbfakpjnnagaaTLaw
import Derived.Test.YtinbfakpjnnagaaRows
set_option linter.unusedSimpArgs false
set_option linter.unusedVariables false
namespace Go.Proofs.Ytinbfakpjnnagaa
open Go.RowKit Go.Vs Go.Vs.Ab
set_option maxRecDepth 100000
set_option maxHeartbeats 4000000
variable {A : List Blk} {hw : List Hw} {b : Nat} {ex : Bool} {L : List Tk} {n : Int}
theorem clearL_succ (L : List Tk) (n : Int) (f : Nat) (r : Rs) (out : List ByteArray) : clearL L n (f + 1) r out =
    if r.e = 0 then
      if isT L (nextR L n r 0) kCom then clearL L n f (nextR L n r 0).adv (out ++ [nextS L r 0])
      else (nextR L n r 0, out ++ [nextS L r 0])
    else (r, out) := rfl
theorem clean_col {T : Type} (enc : T → List CV) (k : Nat) (l : List T) : clean (colA enc k l) = some (.sl l.isEmpty l.length (l.flatMap enc)) := by
  cases l <;> rfl
theorem avCells_col {T : Type} (enc : T → List CV) (k : Nat) (l : List T) : avCells (colA enc k l) = some [colA enc k l] := by
  cases l <;> rfl
theorem appSw (hp : List Blk) (hw : List Hw) (l : List ByteArray) (a : ByteArray) (hl : l.length ≤ 10000000) : aAppend Try.prog ⟨hp, hw ++ colH 9 1 l⟩ 22 (colA stC hw.length l) (.c (.sl true 1 [.v (.string a)])) = some (colA stC hw.length (l ++ [a]), ⟨hp, hw ++ colH 9 1 (l ++ [a])⟩) :=
  app_col (P := Try.prog) stC (size := 1) (fun _ => rfl) Try.underlying22 info_s (hp := hp) (l := l) (x := a) (ex := true) (Nat.le_trans (show _ ≤ 10000001 by omega) (by decide)) (by omega)
def otClr : OT := .one 0 (.one 2 (.br 1 (.br 3 (.br 4 (.br 5 (.one 6 (.br 7 (.fin) (.stop))) (.stop)) (.stop)) (.stop)) (.br 3 (.br 1 (.br 4 (.br 5 (.one 6 (.br 7 (.fin) (.stop))) (.stop)) (.stop)) (.br 4 (.br 1 (.br 5 (.one 6 (.br 7 (.fin) (.stop))) (.stop)) (.stop)) (.stop))) (.stop))))
abbrev clB0 : Blk := ⟨false, [sA ⟨#[]⟩, .c (.sl true 0 [])]⟩
theorem clear_raw (hb : b < A.length) (hL : TkOk L) (r : Rs) (hr : r.i ≤ L.length) : ∃ y z : Blk, GivesW Try.prog 37 [.ptr b 0] ⟨A.set b (rdB ex L n r), hw⟩ (.agg [.v (.string (clearF L n r).2.1), .sl (clearF L n r).2.2.isEmpty (clearF L n r).2.2.length ((clearF L n r).2.2.flatMap stC)]) ⟨A.set b (rdB ex L n (clearF L n r).1) ++ [y, z], hw ++ colH 9 1 (clearF L n r).2.2⟩ := by
  have g := fun (E : List Blk) x => sa_get (A := A) (E := E) hb x
  have g' := fun x => s_get (A := A) hb x
  have c1 := withE (fun A' hb' => next_gives (A := A') (hw := hw) (ex := ex) (n := n) hb' hL r 0 (by omega)) hb [clB0]
  have hi1 := next_i (L := L) (n := n) (r := r) (s := 0)
  have hi2 := must_i (L := L) (n := n) (r := nextR L n r 0) (s := kCol)
  have hlen := hL.len
  unfold clearF
  dsimp only
  generalize nextS L r 0 = who at *
  have c2 := withE (fun A' hb' => must_gives (A := A') (hw := hw) (ex := ex) (n := n) hb' hL.len (nextR L n r 0) kCol) hb [clB0, ⟨false, [sA who, .c (.sl true 0 [])]⟩]
  generalize nextR L n r 0 = r1 at *
  generalize mustT L n r1 kCol = r0 at *
  obtain ⟨T, hT⟩ : ∃ T, T = clearL L n (L.length + 1) r0 [] := ⟨_, rfl⟩
  rw [← hT]
  refine ⟨⟨false, [sA who, .c (.sl T.2.isEmpty T.2.length (T.2.flatMap stC))]⟩, ⟨false, [sA who, colA stC hw.length T.2]⟩, ?_⟩
  refine givesW_of' Try.func37 rfl (by kernel_rfl) Try.ntmps37 rfl rfl fun Q hQ => ?_
  refine tr_low fun hW => ?_
  rw [List.length_set] at hW
  have hWk : ∀ (l : List ByteArray) (x : Rs), lowB (A.length + 2) (hw ++ colH 9 1 l).length (A.set b (rdB ex L n x) ++ [clB0, ⟨false, [sA who, colA stC hw.length l]⟩]) = true := fun l x => by
    refine low_ext (lowB_up (Nat.le_refl _) (by rw [List.length_append]; exact Nat.le_add_right _ _) hW) (by omega) rfl ?_
    simp only [lowB, lows, low_c, low_colW, Bool.and_self]
  repeat (first | refine tr_seq_k fun _ _ => ?_ | (refine tr_region ?_; simp only [go_sem, reduceCtorEq, Nat.reduceEqDiff, Nat.reduceLT, Nat.reduceLeDiff, Nat.reduceAdd, Nat.reduceMul, Nat.reduceSub, Nat.reduceBEq, ↓reduceIte, g, g', s_set, List.length_set, List.length_append, List.length_cons, List.length_nil, List.append_assoc, List.cons_append, List.nil_append, sa_get0, sa_get1, sa_set0, sa_set1]) | (refine call_givesW (c1) ?_; (try dsimp only); (try simp only [go_sem, reduceCtorEq, Nat.reduceEqDiff, Nat.reduceLT, Nat.reduceLeDiff, Nat.reduceAdd, Nat.reduceMul, Nat.reduceSub, Nat.reduceBEq, ↓reduceIte, g, g', s_set, List.length_set, List.length_append, List.length_cons, List.length_nil, List.append_assoc, List.cons_append, List.nil_append, sa_get0, sa_get1, sa_set0, sa_set1])) | (refine call_givesW (c2) ?_; (try dsimp only); (try simp only [go_sem, reduceCtorEq, Nat.reduceEqDiff, Nat.reduceLT, Nat.reduceLeDiff, Nat.reduceAdd, Nat.reduceMul, Nat.reduceSub, Nat.reduceBEq, ↓reduceIte, g, g', s_set, List.length_set, List.length_append, List.length_cons, List.length_nil, List.append_assoc, List.cons_append, List.nil_append, sa_get0, sa_get1, sa_set0, sa_set1])) | refine k_of (by assumption) ?_ | refine tr_block ?_)
  refine tr_loop_k (σ := Bool × Nat × Rs × List ByteArray) (fun q => [(0, .ptr b 0), (2, .ptr A.length 0), (3, .ptr (A.length + 1) 0), (4, bA q.1)]) (fun q => ⟨A.set b (rdB ex L n q.2.2.1) ++ [clB0, ⟨false, [sA who, colA stC hw.length q.2.2.2]⟩], hw ++ colH 9 1 q.2.2.2⟩)
      (fun q => (q.1 = true → clearL L n q.2.1 q.2.2.1 q.2.2.2 = T ∧ L.length < q.2.1 + q.2.2.1.i ∧ q.2.2.1.i ≤ L.length ∧ q.2.2.2.length + q.2.1 ≤ L.length + 1) ∧ (q.1 = false → (q.2.2.1, q.2.2.2) = T)) (fun q => if q.1 then q.2.1 + 1 else 0) (true, L.length + 1, r0, []) ⟨fun _ => ⟨hT.symm, by dsimp only; omega, by dsimp only; omega, by dsimp only [List.length_nil]; omega⟩, (fun h => by cases h)⟩ ⟨rfl, rfl, rfl, rfl, trivial⟩ (by simp [colH, colA]) ?_
  rintro ⟨more, f, r2, out⟩ ⟨hI1, hI2⟩ K hK
  dsimp only at hI1 hI2 ⊢
  have cc := clean_col stC hw.length out
  cases more with
  | false =>
      obtain rfl := hI2 rfl
      repeat (first | refine tr_seq_k fun _ _ => ?_ | (refine tr_region ?_; simp only [go_sem, reduceCtorEq, Nat.reduceEqDiff, Nat.reduceLT, Nat.reduceLeDiff, Nat.reduceAdd, Nat.reduceMul, Nat.reduceSub, Nat.reduceBEq, ↓reduceIte, g, g', s_set, List.length_set, List.length_append, List.length_cons, List.length_nil, List.append_assoc, List.cons_append, List.nil_append, sa_get0, sa_get1, sa_set0, sa_set1]) | refine k_of (by assumption) ?_)
      refine tr_cond rfl (fun ht => ?_) (fun hf => ?_)
      · cases ht
      · repeat (first | refine tr_seq_k fun _ _ => ?_ | (refine tr_region ?_; simp only [go_sem, reduceCtorEq, Nat.reduceEqDiff, Nat.reduceLT, Nat.reduceLeDiff, Nat.reduceAdd, Nat.reduceMul, Nat.reduceSub, Nat.reduceBEq, ↓reduceIte, g, g', s_set, List.length_set, List.length_append, List.length_cons, List.length_nil, List.append_assoc, List.cons_append, List.nil_append, sa_get0, sa_get1, sa_set0, sa_set1, cc]) | refine k_of (by assumption) ?_ | (refine tr_exit ?_; try simp only [ex_seq_exit, ex_block_exit, Nat.reduceEqDiff, if_true, if_false, ex_seq, ex_block, reduceCtorEq, ↓reduceIte]) | (refine tr_ret ?_; try simp only [ex_seq_ret, ex_block_ret]))
        refine (hQ _ _ [.agg [.v (.string who), .sl out.isEmpty out.length (out.flatMap stC)]] ?_ rfl rfl).2 <;> simp only [go_sem, reduceCtorEq, Nat.reduceEqDiff, Nat.reduceLT, Nat.reduceLeDiff, Nat.reduceAdd, Nat.reduceMul, Nat.reduceSub, Nat.reduceBEq, ↓reduceIte, Try.f37, g, g', s_set, List.length_set, List.length_append, List.length_cons, List.length_nil, List.append_assoc, List.cons_append, List.nil_append, sa_get0, sa_get1, sa_set0, sa_set1, cc]
  | true =>
      obtain ⟨hS, hf1, hi3, ho1⟩ := hI1 rfl
      obtain ⟨f, rfl⟩ : ∃ f', f = f' + 1 := ⟨f - 1, by omega⟩
      rw [clearL_succ] at hS
      cases d1 : decide (r2.e = 0) with
      | false =>
        rw [if_neg (of_decide_eq_false d1)] at hS
        obtain rfl := hS
        repeat (first | refine tr_seq_k fun _ _ => ?_ | (refine tr_region ?_; simp only [go_sem, reduceCtorEq, Nat.reduceEqDiff, Nat.reduceLT, Nat.reduceLeDiff, Nat.reduceAdd, Nat.reduceMul, Nat.reduceSub, Nat.reduceBEq, ↓reduceIte, g, g', s_set, List.length_set, List.length_append, List.length_cons, List.length_nil, List.append_assoc, List.cons_append, List.nil_append, sa_get0, sa_get1, sa_set0, sa_set1, d1]) | refine k_of (by assumption) ?_)
        refine tr_cond rfl (fun ht => ?_) (fun hf => ?_)
        · cases ht
        · repeat (first | refine tr_seq_k fun _ _ => ?_ | (refine tr_region ?_; simp only [go_sem, reduceCtorEq, Nat.reduceEqDiff, Nat.reduceLT, Nat.reduceLeDiff, Nat.reduceAdd, Nat.reduceMul, Nat.reduceSub, Nat.reduceBEq, ↓reduceIte, g, g', s_set, List.length_set, List.length_append, List.length_cons, List.length_nil, List.append_assoc, List.cons_append, List.nil_append, sa_get0, sa_get1, sa_set0, sa_set1, cc]) | refine k_of (by assumption) ?_ | (refine tr_exit ?_; try simp only [ex_seq_exit, ex_block_exit, Nat.reduceEqDiff, if_true, if_false, ex_seq, ex_block, reduceCtorEq, ↓reduceIte]) | (refine tr_ret ?_; try simp only [ex_seq_ret, ex_block_ret]))
          refine (hQ _ _ [.agg [.v (.string who), .sl out.isEmpty out.length (out.flatMap stC)]] ?_ rfl rfl).2 <;> simp only [go_sem, reduceCtorEq, Nat.reduceEqDiff, Nat.reduceLT, Nat.reduceLeDiff, Nat.reduceAdd, Nat.reduceMul, Nat.reduceSub, Nat.reduceBEq, ↓reduceIte, Try.f37, g, g', s_set, List.length_set, List.length_append, List.length_cons, List.length_nil, List.append_assoc, List.cons_append, List.nil_append, sa_get0, sa_get1, sa_set0, sa_set1, cc]
      | true =>
        rw [if_pos (of_decide_eq_true d1)] at hS
        have cA := withE (fun A' hb' => next_gives (A := A') (hw := hw ++ colH 9 1 out) (ex := ex) (n := n) hb' hL r2 0 (by omega)) hb [clB0, ⟨false, [sA who, colA stC hw.length out]⟩]
        have hai := next_i (L := L) (n := n) (r := r2) (s := 0)
        generalize nextR L n r2 0 = r3 at *
        generalize nextS L r2 0 = s at *
        have ap := appSw (A.set b (rdB ex L n r3) ++ [clB0, ⟨false, [sA who, colA stC hw.length out]⟩]) hw out s (by omega)
        have b1 := build1T s
        have px : plain1 (colA stC hw.length out) = true := plain1_col _ _ _
        have ac := avCells_col stC hw.length (out ++ [s])
        have cC := withE (fun A' hb' => maybe_gives (A := A') (hw := hw ++ colH 9 1 (out ++ [s])) (ex := ex) (n := n) hb' hL.len r3 kCom) hb [clB0, ⟨false, [sA who, colA stC hw.length (out ++ [s])]⟩]
        unfold maybeR at cC
        repeat (first | refine tr_seq_k fun _ _ => ?_ | (refine tr_region ?_; simp only [go_sem, reduceCtorEq, Nat.reduceEqDiff, Nat.reduceLT, Nat.reduceLeDiff, Nat.reduceAdd, Nat.reduceMul, Nat.reduceSub, Nat.reduceBEq, ↓reduceIte, g, g', s_set, List.length_set, List.length_append, List.length_cons, List.length_nil, List.append_assoc, List.cons_append, List.nil_append, sa_get0, sa_get1, sa_set0, sa_set1, d1]) | refine k_of (by assumption) ?_)
        refine tr_cond rfl (fun ht => ?_) (fun hf => ?_)
        · refine tr_skip ?_
          simp only [ex_seq]
          refine k_of (by assumption) ?_
          refine tr_seq_k fun K5 hK5 => ?_
          refine tr_block ?_
          refine tr_drawX (id := 6) follows otClr (by kernel_rfl) [(0, .ptr b 0), (2, .ptr A.length 0), (3, .ptr (A.length + 1) 0)] ⟨A.set b (rdB ex L n r3) ++ [clB0, ⟨false, [sA who, colA stC hw.length (out ++ [s])]⟩], hw ++ colH 9 1 (out ++ [s])⟩ ?_ ?_
          · unfold otClr
            simp only [go_sem, reduceCtorEq, Nat.reduceEqDiff, Nat.reduceLT, Nat.reduceLeDiff, Nat.reduceAdd, Nat.reduceMul, Nat.reduceSub, Nat.reduceBEq, ↓reduceIte, g, g', s_set, List.length_set, List.length_append, List.length_cons, List.length_nil, List.append_assoc, List.cons_append, List.nil_append, sa_get0, sa_get1, sa_set0, sa_set1, b1, one_max, ap, ac]
            repeat' (first | (refine call_givesW (cA) ?_; (try dsimp only); (try simp only [go_sem, reduceCtorEq, Nat.reduceEqDiff, Nat.reduceLT, Nat.reduceLeDiff, Nat.reduceAdd, Nat.reduceMul, Nat.reduceSub, Nat.reduceBEq, ↓reduceIte, g, g', s_set, List.length_set, List.length_append, List.length_cons, List.length_nil, List.append_assoc, List.cons_append, List.nil_append, sa_get0, sa_get1, sa_set0, sa_set1, b1, one_max, ap, ac, px])) | refine And.intro ?_ ?_)
          · cases h5 : isT L r3 kCom with
            | true =>
              have hlt3 := (isT_lt h5).2
              rw [h5, if_pos rfl] at cC
              rw [h5, if_pos rfl] at hS
              repeat (first | (refine tr_region ?_; simp only [go_sem, reduceCtorEq, Nat.reduceEqDiff, Nat.reduceLT, Nat.reduceLeDiff, Nat.reduceAdd, Nat.reduceMul, Nat.reduceSub, Nat.reduceBEq, ↓reduceIte, g, g', s_set, List.length_set, List.length_append, List.length_cons, List.length_nil, List.append_assoc, List.cons_append, List.nil_append, sa_get0, sa_get1, sa_set0, sa_set1]) | (refine call_givesW (cC) ?_; (try dsimp only); (try simp only [go_sem, reduceCtorEq, Nat.reduceEqDiff, Nat.reduceLT, Nat.reduceLeDiff, Nat.reduceAdd, Nat.reduceMul, Nat.reduceSub, Nat.reduceBEq, ↓reduceIte, g, g', s_set, List.length_set, List.length_append, List.length_cons, List.length_nil, List.append_assoc, List.cons_append, List.nil_append, sa_get0, sa_get1, sa_set0, sa_set1])) | refine k_of (by assumption) ?_)
              exact hK (true, f, r3.adv, out ++ [s]) _ _ ⟨fun _ => ⟨hS, by show L.length < f + (r3.i + 1); omega, hlt3, by simp only [List.length_append, List.length_cons, List.length_nil]; omega⟩, (fun h => by cases h)⟩ ⟨⟨rfl, rfl, rfl, rfl, trivial⟩, Keep.refl _, by simp only [lowF, low_colW, low_ptr, low_c, List.length_append, List.length_set, List.length_cons, List.length_nil, Nat.blt_eq, Bool.and_eq_true, and_true]; omega, by rw [List.length_append, List.length_set]; exact hWk _ _, by simp only [List.length_append, List.length_set]; exact Nat.le_refl _, by simp only [List.length_append, colH, List.length_nil]; omega⟩ (by simp)
            | false =>
              rw [h5, if_neg Bool.false_ne_true] at cC
              rw [h5, if_neg Bool.false_ne_true] at hS
              repeat (first | (refine tr_region ?_; simp only [go_sem, reduceCtorEq, Nat.reduceEqDiff, Nat.reduceLT, Nat.reduceLeDiff, Nat.reduceAdd, Nat.reduceMul, Nat.reduceSub, Nat.reduceBEq, ↓reduceIte, g, g', s_set, List.length_set, List.length_append, List.length_cons, List.length_nil, List.append_assoc, List.cons_append, List.nil_append, sa_get0, sa_get1, sa_set0, sa_set1]) | (refine call_givesW (cC) ?_; (try dsimp only); (try simp only [go_sem, reduceCtorEq, Nat.reduceEqDiff, Nat.reduceLT, Nat.reduceLeDiff, Nat.reduceAdd, Nat.reduceMul, Nat.reduceSub, Nat.reduceBEq, ↓reduceIte, g, g', s_set, List.length_set, List.length_append, List.length_cons, List.length_nil, List.append_assoc, List.cons_append, List.nil_append, sa_get0, sa_get1, sa_set0, sa_set1])) | refine k_of (by assumption) ?_)
              exact hK (false, f, r3, out ++ [s]) _ _ ⟨(fun h => by cases h), fun _ => hS⟩ ⟨⟨rfl, rfl, rfl, rfl, trivial⟩, Keep.refl _, by simp only [lowF, low_colW, low_ptr, low_c, List.length_append, List.length_set, List.length_cons, List.length_nil, Nat.blt_eq, Bool.and_eq_true, and_true]; omega, by rw [List.length_append, List.length_set]; exact hWk _ _, by simp only [List.length_append, List.length_set]; exact Nat.le_refl _, by simp only [List.length_append, colH, List.length_nil]; omega⟩ (by simp)
        · cases hf
theorem clear_gives (hb : b < A.length) (hL : TkOk L) (r : Rs) (hr : r.i ≤ L.length) : GivesW Try.prog 37 [.ptr b 0] ⟨A.set b (rdB ex L n r), hw⟩ (.agg [.v (.string (clearF L n r).2.1), .sl (clearF L n r).2.2.isEmpty (clearF L n r).2.2.length ((clearF L n r).2.2.flatMap stC)]) ⟨A.set b (rdB ex L n (clearF L n r).1), hw⟩ := by
  obtain ⟨y, z, h⟩ := clear_raw (hw := hw) (ex := ex) (n := n) hb hL r hr
  refine h.trim ⟨⟨[y, z], rfl⟩, ⟨_, rfl⟩⟩ (fun hl => ?_) (by simp) (Nat.le_refl _) (cut_shut rfl)
  simp only [List.length_set] at hl ⊢
  exact low_re hl rfl
end Go.Proofs.Ytinbfakpjnnagaa
namespace Go.Vs.Ab
open Go.RowKit
variable {P : Program}
def apK {T : Type} (hw : List Hw) (k : Nat) : List T → Nat
  | [] => hw.length
  | _ :: _ => k
def apH {T : Type} (hw : List Hw) (k : Nat) (e : TypeId) (size : Nat) : List T → List Hw
  | [] => hw ++ [⟨1, e, size⟩]
  | _ :: l => hw.set k ⟨l.length + 1 + 1, e, size⟩
def ColIs {T : Type} (hw : List Hw) (k : Nat) (e : TypeId) (size : Nat) (l : List T) : Prop := l ≠ [] → hw[k]? = some ⟨l.length, e, size⟩
theorem colIs_nil {T : Type} (hw : List Hw) (k : Nat) (e : TypeId) (size : Nat) : ColIs (T := T) hw k e size [] := fun h => absurd rfl h
theorem colIs_low {T : Type} {enc : T → List CV} {hw : List Hw} {k : Nat} {e : TypeId} {size : Nat} {l : List T} (h : ColIs hw k e size l) (i : Nat) : low i hw.length (colA enc k l) = true := by
  cases l with
  | nil => rfl
  | cons x l =>
    have := (List.getElem?_eq_some_iff.1 (h (by simp))).1
    simp only [colA, low, Nat.blt_eq]
    exact this
theorem app_gen {T : Type} (enc : T → List CV) {t e : TypeId} {size bytes : Nat} (hk : ∀ x, (enc x).length = size) (ht : P.underlying t = some (.slice e)) (hi : info3 P e = some (size, bytes)) {hw : List Hw} {k : Nat} {l : List T} {x : T} (hI : ColIs hw k e size l)
    (hl : l.length + 1 ≤ maxLen) (hb : (l.length + 1) * bytes ≤ 140737488355328) (hp : List Blk) :
    aAppend P ⟨hp, hw⟩ t (colA enc k l) (.c (.sl true 1 (enc x))) = some (colA enc (apK hw k l) (l ++ [x]), ⟨hp, apH hw k e size l⟩) := by
  have hf : ∀ lc, lc = l.length * size → fits l.length 1 size bytes lc (enc x).length = true := fun lc e1 => by
    have h1 : Nat.ble (l.length + 1) maxLen = true := by simpa using hl
    have h2 : Nat.ble ((l.length + 1) * bytes) 140737488355328 = true := by simpa using hb
    simp only [fits, e1, hk, h1, h2, Nat.one_mul, Nat.beq_refl, Bool.and_self]
  have hne : l ++ [x] ≠ [] := by simp
  rw [colA_ne enc _ hne]
  have e2 : (l ++ [x]).length = l.length + 1 := by simp
  have e3 : (l ++ [x]).flatMap enc = l.flatMap enc ++ enc x := by simp
  cases l with
  | nil =>
    have := hf 0 (by simp)
    simp only [List.length_nil] at this
    simp only [aAppend, ht, hi, slV, colA, dst, apK, apH, List.length_nil, this, if_true, e2, e3, List.flatMap_nil, List.nil_append, Nat.zero_add]
    rw [if_neg (by decide)]
    simp
  | cons y l =>
    have := hf (((y :: l).flatMap enc).length) (flat_length enc size hk _)
    simp only [List.length_cons] at this
    have h5 : hw[k]? = some ⟨l.length + 1, e, size⟩ := hI (by simp)
    simp only [aAppend, ht, hi, slV, colA, dst, apK, apH, h5, Nat.beq_refl, this, Bool.and_self, if_true, e2, e3, List.length_cons]
    rw [if_neg (by decide)]
theorem apH_self {T : Type} {hw : List Hw} {k : Nat} {e : TypeId} {size : Nat} {l : List T} (x : T) (h : ColIs hw k e size l) : ColIs (apH hw k e size l) (apK hw k l) e size (l ++ [x]) := fun _ => by
  cases l with
  | nil => simp [apH, apK]
  | cons y l =>
    have := (List.getElem?_eq_some_iff.1 (h (by simp))).1
    simp only [apH, apK]
    rw [List.getElem?_set_self this]
    simp
theorem apH_other {T U : Type} {hw : List Hw} {k k' : Nat} {e e' : TypeId} {size size' : Nat} {l : List T} {l' : List U} (h : ColIs hw k e size l) (h' : ColIs hw k' e' size' l') (hne : e ≠ e') : ColIs (apH hw k e size l) k' e' size' l' := fun hl => by
  have g := h' hl
  have hlt := (List.getElem?_eq_some_iff.1 g).1
  cases l with
  | nil =>
    simp only [apH]
    rw [List.getElem?_append_left hlt]
    exact g
  | cons y l =>
    have g2 := h (by simp)
    simp only [apH]
    rw [List.getElem?_set_ne, g]
    intro ek
    subst ek
    rw [g2] at g
    injection g with g
    injection g with _ g _
    exact hne g
theorem apH_len {T : Type} (hw : List Hw) (k : Nat) (e : TypeId) (size : Nat) (l : List T) : hw.length ≤ (apH hw k e size l).length := by
  cases l with
  | nil => simp [apH]
  | cons => simp [apH]
end Go.Vs.Ab
namespace Go.Proofs.Ytinbfakpjnnagaa
open Go.RowKit Go.Vs Go.Vs.Ab
set_option maxRecDepth 100000
set_option maxHeartbeats 4000000
/-! ### the plain law -/
structure Pp where
  prin : List ByteArray
  preds : List Prd
  clears : List Clr
  quota : Int
  budget : Int
  rules : List Rul
  grants : List Grt
def canT (L : List Tk) (r : Rs) : Bool := decide (r.e = 0) && (match L[r.i + 1]? with | some t => decide (t.text = kCan) | none => false)
def saysF (L : List Tk) (n : Int) (r : Rs) (p : Pp) : Rs × Pp :=
  let who := nextS L r 0
  let r1 := mustT L n (nextR L n r 0) kSays
  if canT L r1 then
    let h := saidF L n (mustT L n (nextR L n r1 0) kCan) who
    let b := bodyF L n h.1
    (b.1, { p with grants := p.grants ++ [⟨nextS L r1 0, h.2, b.2.isEmpty, b.2⟩] })
  else
    let h := saidF L n r1 who
    let b := bodyF L n h.1
    (b.1, { p with rules := p.rules ++ [⟨h.2, b.2.isEmpty, b.2⟩] })
structure Pst where
  r : Rs
  p : Pp
  wq : Bool
  wb : Bool
abbrev kPrin : ByteArray := ⟨#[112, 114, 105, 110, 99, 105, 112, 97, 108]⟩
abbrev kPred : ByteArray := ⟨#[112, 114, 101, 100]⟩
abbrev kClear : ByteArray := ⟨#[99, 108, 101, 97, 114]⟩
abbrev kQuota : ByteArray := ⟨#[113, 117, 111, 116, 97]⟩
abbrev kBudget : ByteArray := ⟨#[98, 117, 100, 103, 101, 116]⟩
def armF (L : List Tk) (n : Int) (s : Pst) : Pst :=
  if isT L s.r kPrin then { s with r := nextR L n s.r.adv 0, p := { s.p with prin := s.p.prin ++ [nextS L s.r.adv 0] } }
  else if isT L s.r kPred then
    let r2 := mustT L n (nextR L n s.r.adv 1) kSl
    { s with r := nextR L n r2 3, p := { s.p with preds := s.p.preds ++ [⟨nextS L s.r.adv 1, numB (nextS L r2 3)⟩] } }
  else if isT L s.r kClear then
    let c := clearF L n s.r.adv
    { s with r := c.1, p := { s.p with clears := s.p.clears ++ [⟨c.2.1, c.2.2.isEmpty, c.2.2⟩] } }
  else if isT L s.r kQuota then
    let r2 := onceR L n s.r.adv s.wq
    { s with r := nextR L n r2 3, p := { s.p with quota := numB (nextS L r2 3) }, wq := true }
  else if isT L s.r kBudget then
    let r2 := onceR L n s.r.adv s.wb
    { s with r := nextR L n r2 3, p := { s.p with budget := numB (nextS L r2 3) }, wb := true }
  else { s with r := (saysF L n s.r s.p).1, p := (saysF L n s.r s.p).2 }
def stepF (L : List Tk) (n : Int) (s : Pst) : Pst := { armF L n s with r := mustT L n (armF L n s).r kDot }
def polL (L : List Tk) (n : Int) : Nat → Pst → Pst
  | 0, s => s
  | f + 1, s => if s.r.e = 0 ∧ s.r.i < L.length then polL L n f (stepF L n s) else s
def pp0 : Pp := ⟨[], [], [], 0, 0, [], []⟩
def polS (L : List Tk) (n : Int) : Pst := polL L n (L.length + 1) ⟨⟨0, 0, 0⟩, pp0, false, false⟩
def polOf (p : Pp) : Pol := ⟨p.prin.isEmpty, p.prin, p.preds.isEmpty, p.preds, p.clears.isEmpty, p.clears, p.quota, p.budget, p.rules.isEmpty, p.rules, p.grants.isEmpty, p.grants⟩
def pol0 : Pol := polOf pp0
def polParse (s : ByteArray) : Pol × Int × Int :=
  if (toksAll s).2.2 ≠ 0 then (pol0, (toksAll s).2.1, (toksAll s).2.2)
  else if (polS (toksAll s).1 s.size).r.e ≠ 0 then (pol0, (polS (toksAll s).1 s.size).r.at_, (polS (toksAll s).1 s.size).r.e)
  else (polOf (polS (toksAll s).1 s.size).p, 0, 0)
/-! ### a policy that is collected -/
structure Ks where
  k1 : Nat
  k2 : Nat
  k3 : Nat
  k4 : Nat
  k5 : Nat
def polC (p : Pp) (k : Ks) : List AV := [colA stC k.k1 p.prin, colA prC k.k2 p.preds, colA clC k.k3 p.clears, iA p.quota, iA p.budget, colA ruC k.k4 p.rules, colA grC k.k5 p.grants]
attribute [go_sem] polC
abbrev polB (p : Pp) (k : Ks) : Blk := ⟨false, polC p k⟩
structure KsOk (hw : List Hw) (p : Pp) (k : Ks) : Prop where
  h1 : ColIs hw k.k1 9 1 p.prin
  h2 : ColIs hw k.k2 58 2 p.preds
  h3 : ColIs hw k.k3 60 2 p.clears
  h4 : ColIs hw k.k4 53 12 p.rules
  h5 : ColIs hw k.k5 47 13 p.grants
theorem ksOk_low {hw : List Hw} {p : Pp} {k : Ks} (h : KsOk hw p k) (i : Nat) : lows i hw.length (polC p k) = true := by
  simp only [polC, lows, colIs_low h.h1, colIs_low h.h2, colIs_low h.h3, colIs_low h.h4, colIs_low h.h5, low_c, Bool.and_self]
theorem KsOk.prin {hw : List Hw} {p : Pp} {k : Ks} (h : KsOk hw p k) (x : ByteArray) : KsOk (apH hw k.k1 9 1 p.prin) { p with prin := p.prin ++ [x] } { k with k1 := apK hw k.k1 p.prin } :=
  ⟨apH_self x h.h1, apH_other h.h1 h.h2 (by decide), apH_other h.h1 h.h3 (by decide), apH_other h.h1 h.h4 (by decide), apH_other h.h1 h.h5 (by decide)⟩
theorem KsOk.preds {hw : List Hw} {p : Pp} {k : Ks} (h : KsOk hw p k) (x : Prd) : KsOk (apH hw k.k2 58 2 p.preds) { p with preds := p.preds ++ [x] } { k with k2 := apK hw k.k2 p.preds } :=
  ⟨apH_other h.h2 h.h1 (by decide), apH_self x h.h2, apH_other h.h2 h.h3 (by decide), apH_other h.h2 h.h4 (by decide), apH_other h.h2 h.h5 (by decide)⟩
theorem KsOk.clears {hw : List Hw} {p : Pp} {k : Ks} (h : KsOk hw p k) (x : Clr) : KsOk (apH hw k.k3 60 2 p.clears) { p with clears := p.clears ++ [x] } { k with k3 := apK hw k.k3 p.clears } :=
  ⟨apH_other h.h3 h.h1 (by decide), apH_other h.h3 h.h2 (by decide), apH_self x h.h3, apH_other h.h3 h.h4 (by decide), apH_other h.h3 h.h5 (by decide)⟩
theorem KsOk.rules {hw : List Hw} {p : Pp} {k : Ks} (h : KsOk hw p k) (x : Rul) : KsOk (apH hw k.k4 53 12 p.rules) { p with rules := p.rules ++ [x] } { k with k4 := apK hw k.k4 p.rules } :=
  ⟨apH_other h.h4 h.h1 (by decide), apH_other h.h4 h.h2 (by decide), apH_other h.h4 h.h3 (by decide), apH_self x h.h4, apH_other h.h4 h.h5 (by decide)⟩
theorem KsOk.grants {hw : List Hw} {p : Pp} {k : Ks} (h : KsOk hw p k) (x : Grt) : KsOk (apH hw k.k5 47 13 p.grants) { p with grants := p.grants ++ [x] } { k with k5 := apK hw k.k5 p.grants } :=
  ⟨apH_other h.h5 h.h1 (by decide), apH_other h.h5 h.h2 (by decide), apH_other h.h5 h.h3 (by decide), apH_other h.h5 h.h4 (by decide), apH_self x h.h5⟩
theorem info_pr : info3 Try.prog 58 = some (2, 24) := by simp only [info3, sz58, by58, ze58]; rfl
theorem info_cl : info3 Try.prog 60 = some (2, 40) := by simp only [info3, sz60, by60, ze60]; rfl
theorem info_ru : info3 Try.prog 53 = some (12, 160) := by simp only [info3, sz53, by53, ze53]; rfl
theorem info_gr : info3 Try.prog 47 = some (13, 176) := by simp only [info3, sz47, by47, ze47]; rfl
theorem ml {n : Nat} (h : n ≤ 10000000) : n + 1 ≤ maxLen := Nat.le_trans (show _ ≤ 10000001 by omega) (by decide)
theorem apGr {hw : List Hw} {k : Nat} {l : List Grt} (tw : ByteArray) (a : Atm) (B : List Atm) (hI : ColIs hw k 47 13 l) (hl : l.length ≤ 10000000) (hp : List Blk) : aAppend Try.prog ⟨hp, hw⟩ 26 (colA grC k l) (.c (.sl true 1 [.v (.string tw), .v (.string a.says), .v (.string a.pred), .v (.int .i64 a.n), .v (.bool a.a0.v), .v (.string a.a0.name), .v (.bool a.a1.v), .v (.string a.a1.name), .v (.bool a.a2.v), .v (.string a.a2.name), .v (.bool a.a3.v), .v (.string a.a3.name), .sl B.isEmpty B.length (B.flatMap atC)])) = some (colA grC (apK hw k l) (l ++ [⟨tw, a, B.isEmpty, B⟩]), ⟨hp, apH hw k 47 13 l⟩) :=
  app_gen (P := Try.prog) grC (x := ⟨tw, a, B.isEmpty, B⟩) (fun _ => rfl) Try.underlying26 info_gr hI (ml hl) (by omega) hp
theorem apRu {hw : List Hw} {k : Nat} {l : List Rul} (a : Atm) (B : List Atm) (hI : ColIs hw k 53 12 l) (hl : l.length ≤ 10000000) (hp : List Blk) : aAppend Try.prog ⟨hp, hw⟩ 25 (colA ruC k l) (.c (.sl true 1 [.v (.string a.says), .v (.string a.pred), .v (.int .i64 a.n), .v (.bool a.a0.v), .v (.string a.a0.name), .v (.bool a.a1.v), .v (.string a.a1.name), .v (.bool a.a2.v), .v (.string a.a2.name), .v (.bool a.a3.v), .v (.string a.a3.name), .sl B.isEmpty B.length (B.flatMap atC)])) = some (colA ruC (apK hw k l) (l ++ [⟨a, B.isEmpty, B⟩]), ⟨hp, apH hw k 53 12 l⟩) :=
  app_gen (P := Try.prog) ruC (x := ⟨a, B.isEmpty, B⟩) (fun _ => rfl) Try.underlying25 info_ru hI (ml hl) (by omega) hp
theorem bldGr (tw : ByteArray) (a : Atm) (B : List Atm) : aBuildSlice Try.prog 26 1 [(0, .agg [.v (.string tw), .v (.string a.says), .v (.string a.pred), .v (.int .i64 a.n), .v (.bool a.a0.v), .v (.string a.a0.name), .v (.bool a.a1.v), .v (.string a.a1.name), .v (.bool a.a2.v), .v (.string a.a2.name), .v (.bool a.a3.v), .v (.string a.a3.name), .sl B.isEmpty B.length (B.flatMap atC)])] = some [.v (.string tw), .v (.string a.says), .v (.string a.pred), .v (.int .i64 a.n), .v (.bool a.a0.v), .v (.string a.a0.name), .v (.bool a.a1.v), .v (.string a.a1.name), .v (.bool a.a2.v), .v (.string a.a2.name), .v (.bool a.a3.v), .v (.string a.a3.name), .sl B.isEmpty B.length (B.flatMap atC)] := build1 Try.underlying26 sz47 ze47 (by decide) (by decide) (by decide) rfl rfl
theorem bldRu (a : Atm) (B : List Atm) : aBuildSlice Try.prog 25 1 [(0, .agg [.v (.string a.says), .v (.string a.pred), .v (.int .i64 a.n), .v (.bool a.a0.v), .v (.string a.a0.name), .v (.bool a.a1.v), .v (.string a.a1.name), .v (.bool a.a2.v), .v (.string a.a2.name), .v (.bool a.a3.v), .v (.string a.a3.name), .sl B.isEmpty B.length (B.flatMap atC)])] = some [.v (.string a.says), .v (.string a.pred), .v (.int .i64 a.n), .v (.bool a.a0.v), .v (.string a.a0.name), .v (.bool a.a1.v), .v (.string a.a1.name), .v (.bool a.a2.v), .v (.string a.a2.name), .v (.bool a.a3.v), .v (.string a.a3.name), .sl B.isEmpty B.length (B.flatMap atC)] := build1 Try.underlying25 sz53 ze53 (by decide) (by decide) (by decide) rfl rfl
def otSays : OT := .one 0 (.one 1 (.one 2 (.one 3 (.one 6 (.br 4 (.br 5 (.br 7 (.br 8 (.br 9 (.br 10 (.one 11 (.one 12 (.br 13 (.fin) (.stop)))) (.stop)) (.stop)) (.stop)) (.stop)) (.br 7 (.br 5 (.br 8 (.br 9 (.br 10 (.one 11 (.one 12 (.br 13 (.fin) (.stop)))) (.stop)) (.stop)) (.stop)) (.stop)) (.stop))) (.br 5 (.br 4 (.br 7 (.br 8 (.br 9 (.br 10 (.one 11 (.one 12 (.br 13 (.fin) (.stop)))) (.stop)) (.stop)) (.stop)) (.stop)) (.br 7 (.br 4 (.br 8 (.br 9 (.br 10 (.one 11 (.one 12 (.br 13 (.fin) (.stop)))) (.stop)) (.stop)) (.stop)) (.br 8 (.br 4 (.br 9 (.br 10 (.one 11 (.one 12 (.br 13 (.fin) (.stop)))) (.stop)) (.stop)) (.br 9 (.br 4 (.br 10 (.one 11 (.one 12 (.br 13 (.fin) (.stop)))) (.stop)) (.stop)) (.stop))) (.stop))) (.stop))) (.br 7 (.br 4 (.br 5 (.br 8 (.br 9 (.br 10 (.one 11 (.one 12 (.br 13 (.fin) (.stop)))) (.stop)) (.stop)) (.stop)) (.stop)) (.br 5 (.br 4 (.br 8 (.br 9 (.br 10 (.one 11 (.one 12 (.br 13 (.fin) (.stop)))) (.stop)) (.stop)) (.stop)) (.br 8 (.br 4 (.br 9 (.br 10 (.one 11 (.one 12 (.br 13 (.fin) (.stop)))) (.stop)) (.stop)) (.br 9 (.br 4 (.br 10 (.one 11 (.one 12 (.br 13 (.fin) (.stop)))) (.stop)) (.stop)) (.stop))) (.stop))) (.stop))) (.stop))))))))
/-! ### says -/
variable {hw : List Hw} {ex : Bool} {L : List Tk} {n : Int}
theorem rd3 {F : FuncId} {args : List AV} {r0 : AV} {x y : Blk} (h : ∀ A' : List Blk, 1 < A'.length → GivesW Try.prog F args ⟨A'.set 1 x, hw⟩ r0 ⟨A'.set 1 y, hw⟩) (z : Blk) (E : List Blk) : GivesW Try.prog F args ⟨z :: x :: E, hw⟩ r0 ⟨z :: y :: E, hw⟩ := h (z :: x :: E) (by simp)
theorem says_raw {z : Blk} {p : Pp} {k : Ks} (hk : KsOk hw p k) (hL : TkOk L) (r : Rs) (hr : r.i ≤ L.length) (hlr : p.rules.length ≤ 10000000) (hlg : p.grants.length ≤ 10000000) : ∃ (y : Blk) (k' : Ks) (hw' : List Hw), KsOk hw' (saysF L n r p).2 k' ∧ hw.length ≤ hw'.length ∧
    GivesW Try.prog 39 [.ptr 1 0, .ptr 2 0] ⟨[z, rdB ex L n r, polB p k], hw⟩ (.tup []) ⟨[z, rdB ex L n (saysF L n r p).1, polB (saysF L n r p).2 k', y], hw'⟩ := by
  have hlen := hL.len
  have c1 := rd3 (fun A' hb' => next_gives (A := A') (hw := hw) (ex := ex) (n := n) hb' hL r 0 (by omega)) z [polB p k]
  have c2 := rd3 (fun A' hb' => must_gives (A := A') (hw := hw) (ex := ex) (n := n) hb' hL.len (nextR L n r 0) kSays) z [polB p k]
  have hi1 := next_i (L := L) (n := n) (r := r) (s := 0)
  have hi2 := must_i (L := L) (n := n) (r := nextR L n r 0) (s := kSays)
  unfold saysF
  dsimp only
  generalize nextS L r 0 = who at *
  generalize nextR L n r 0 = r0 at *
  generalize mustT L n r0 kSays = r1 at *
  have ws := wrap_succ (show r1.i ≤ 1000000000 by omega)
  cases hc : canT L r1 with
  | true =>
    rw [if_pos rfl]
    have c3 := rd3 (fun A' hb' => next_gives (A := A') (hw := hw) (ex := ex) (n := n) hb' hL r1 0 (by omega)) z [polB p k]
    have hi3 := next_i (L := L) (n := n) (r := r1) (s := 0)
    have hi4 := must_i (L := L) (n := n) (r := nextR L n r1 0) (s := kCan)
    generalize nextS L r1 0 = tw at *
    generalize nextR L n r1 0 = r2 at *
    have c4 := rd3 (fun A' hb' => must_gives (A := A') (hw := hw) (ex := ex) (n := n) hb' hL.len r2 kCan) z [polB p k, ⟨false, [sA tw, sA ⟨#[]⟩, sA ⟨#[]⟩, iA 0, bA false, sA ⟨#[]⟩, bA false, sA ⟨#[]⟩, bA false, sA ⟨#[]⟩, bA false, sA ⟨#[]⟩, .c (.sl true 0 [])]⟩]
    generalize mustT L n r2 kCan = r3 at *
    have c5 := rd3 (fun A' hb' => said_gives (A := A') (hw := hw) (ex := ex) (n := n) hb' hL r3 who) z [polB p k, ⟨false, [sA tw, sA ⟨#[]⟩, sA ⟨#[]⟩, iA 0, bA false, sA ⟨#[]⟩, bA false, sA ⟨#[]⟩, bA false, sA ⟨#[]⟩, bA false, sA ⟨#[]⟩, .c (.sl true 0 [])]⟩]
    have hi5 := said_i (L := L) (n := n) (r := r3) (s := who)
    generalize saidF L n r3 who = q at *
    obtain ⟨r4, a⟩ := q
    dsimp only at *
    have c6 := rd3 (fun A' hb' => body_gives (A := A') (hw := hw) (ex := ex) (n := n) hb' hL r4 (by omega)) z [polB p k, ⟨false, [sA tw, .c (.v (.string a.says)), .c (.v (.string a.pred)), .c (.v (.int .i64 a.n)), .c (.v (.bool a.a0.v)), .c (.v (.string a.a0.name)), .c (.v (.bool a.a1.v)), .c (.v (.string a.a1.name)), .c (.v (.bool a.a2.v)), .c (.v (.string a.a2.name)), .c (.v (.bool a.a3.v)), .c (.v (.string a.a3.name)), .c (.sl true 0 [])]⟩]
    generalize bodyF L n r4 = q at *
    obtain ⟨r5, B⟩ := q
    dsimp only at *
    have ap := fun hp => apGr tw a B hk.h5 hlg hp
    have b1 := bldGr tw a B
    have pc := plain1_col stC k.k1 p.prin
    have ac := avCells_col grC (apK hw k.k5 p.grants) (p.grants ++ [⟨tw, a, B.isEmpty, B⟩])
    refine ⟨⟨false, [sA tw, .c (.v (.string a.says)), .c (.v (.string a.pred)), .c (.v (.int .i64 a.n)), .c (.v (.bool a.a0.v)), .c (.v (.string a.a0.name)), .c (.v (.bool a.a1.v)), .c (.v (.string a.a1.name)), .c (.v (.bool a.a2.v)), .c (.v (.string a.a2.name)), .c (.v (.bool a.a3.v)), .c (.v (.string a.a3.name)), .c (.sl B.isEmpty B.length (B.flatMap atC))]⟩, { k with k5 := apK hw k.k5 p.grants }, apH hw k.k5 47 13 p.grants, hk.grants _, apH_len _ _ _ _ _, ?_⟩
    refine givesW_of' Try.func39 rfl (by kernel_rfl) Try.ntmps39 rfl rfl fun Q hQ => ?_
    refine tr_low fun hW => ?_
    have hWk : ∀ x : Rs, lowB 3 hw.length [z, rdB ex L n x, polB p k] = true := fun x => hW
    repeat (first | refine tr_seq_k fun _ _ => ?_ | (refine tr_region ?_; simp only [go_sem, reduceCtorEq, Nat.reduceEqDiff, Nat.reduceLT, Nat.reduceLeDiff, Nat.reduceAdd, Nat.reduceMul, Nat.reduceSub, Nat.reduceBEq, ↓reduceIte]) | (refine call_givesW (c1) ?_; (try dsimp only); (try simp only [go_sem, reduceCtorEq, Nat.reduceEqDiff, Nat.reduceLT, Nat.reduceLeDiff, Nat.reduceAdd, Nat.reduceMul, Nat.reduceSub, Nat.reduceBEq, ↓reduceIte])) | (refine call_givesW (c2) ?_; (try dsimp only); (try simp only [go_sem, reduceCtorEq, Nat.reduceEqDiff, Nat.reduceLT, Nat.reduceLeDiff, Nat.reduceAdd, Nat.reduceMul, Nat.reduceSub, Nat.reduceBEq, ↓reduceIte])) | refine k_of (by assumption) ?_)
    refine tr_meet_k (σ := Unit) (fun _ => [(0, .ptr 1 0), (1, .ptr 2 0), (4, sA who), (43, bA true)]) (fun _ => ⟨[z, rdB ex L n r1, polB p k], hw⟩) (fun _ => True) (fun K hK => ?_) (fun _ _ => ?_)
    · cases d1 : decide (r1.e = 0) with
      | false =>
        unfold canT at hc
        rw [d1] at hc
        cases hc
      | true =>
        by_cases hj : r1.i + 1 < L.length
        · have ix := idxTk (ex := ex) hj
          have hx : canT L r1 = decide (L[r1.i + 1].text = kCan) := by unfold canT; rw [d1, List.getElem?_eq_getElem hj]; rfl
          rw [hc] at hx
          have d2 : decide (((r1.i + 1 : Nat) : Int) < (L.length : Nat)) = true := decide_eq_true (by omega)
          generalize L[r1.i + 1] = t at *
          repeat ((refine tr_drawC (id := 2) follows 10000 (by kernel_rfl) ?_; simp only [go_sem, reduceCtorEq, Nat.reduceEqDiff, Nat.reduceLT, Nat.reduceLeDiff, Nat.reduceAdd, Nat.reduceMul, Nat.reduceSub, Nat.reduceBEq, ↓reduceIte, d1, d2, ix, ws, ← hx]))
          exact hK () _ _ trivial ⟨⟨rfl, rfl, rfl, rfl, trivial⟩, Keep.refl _, rfl, hWk _, Nat.le_refl _, Nat.le_refl _⟩
        · unfold canT at hc
          rw [d1, List.getElem?_eq_none (by omega)] at hc
          cases hc
    refine k_of (by assumption) ?_
    skip
    refine tr_cond rfl (fun ht => ?_) (fun hf => ?_)
    · repeat (first | refine tr_seq_k fun _ _ => ?_ | (refine tr_region ?_; simp only [go_sem, reduceCtorEq, Nat.reduceEqDiff, Nat.reduceLT, Nat.reduceLeDiff, Nat.reduceAdd, Nat.reduceMul, Nat.reduceSub, Nat.reduceBEq, ↓reduceIte, one_max, pc, ap, b1, ac]) | (refine tr_draw (id := 7) follows 10 [6, 7, 10] [0, 1, 2, 3, 4, 5, 6, 7, 8, 9, 10] (by kernel_rfl) ?_; simp only [go_sem, reduceCtorEq, Nat.reduceEqDiff, Nat.reduceLT, Nat.reduceLeDiff, Nat.reduceAdd, Nat.reduceMul, Nat.reduceSub, Nat.reduceBEq, ↓reduceIte, one_max, pc, ap, b1, ac]) | (refine call_givesW (c3) ?_; (try dsimp only); (try simp only [go_sem, reduceCtorEq, Nat.reduceEqDiff, Nat.reduceLT, Nat.reduceLeDiff, Nat.reduceAdd, Nat.reduceMul, Nat.reduceSub, Nat.reduceBEq, ↓reduceIte, one_max, pc, ap, b1, ac])) | (refine call_givesW (c4) ?_; (try dsimp only); (try simp only [go_sem, reduceCtorEq, Nat.reduceEqDiff, Nat.reduceLT, Nat.reduceLeDiff, Nat.reduceAdd, Nat.reduceMul, Nat.reduceSub, Nat.reduceBEq, ↓reduceIte, one_max, pc, ap, b1, ac])) | (refine call_givesW (c5) ?_; (try dsimp only); (try simp only [go_sem, reduceCtorEq, Nat.reduceEqDiff, Nat.reduceLT, Nat.reduceLeDiff, Nat.reduceAdd, Nat.reduceMul, Nat.reduceSub, Nat.reduceBEq, ↓reduceIte, one_max, pc, ap, b1, ac])) | (refine call_givesW (c6) ?_; (try dsimp only); (try simp only [go_sem, reduceCtorEq, Nat.reduceEqDiff, Nat.reduceLT, Nat.reduceLeDiff, Nat.reduceAdd, Nat.reduceMul, Nat.reduceSub, Nat.reduceBEq, ↓reduceIte, one_max, pc, ap, b1, ac])) | refine k_of (by assumption) ?_ | (refine tr_ret ?_; try simp only [ex_seq_ret, ex_block_ret]))
      exact (hQ _ _ [] rfl rfl rfl).2
    · cases hf
  | false =>
    rw [if_neg Bool.false_ne_true]
    have c5 := rd3 (fun A' hb' => said_gives (A := A') (hw := hw) (ex := ex) (n := n) hb' hL r1 who) z [polB p k]
    have hi5 := said_i (L := L) (n := n) (r := r1) (s := who)
    generalize saidF L n r1 who = q at *
    obtain ⟨r4, a⟩ := q
    dsimp only at *
    have c6 := rd3 (fun A' hb' => body_gives (A := A') (hw := hw) (ex := ex) (n := n) hb' hL r4 (by omega)) z [polB p k, ⟨false, ([.c (.v (.string a.says)), .c (.v (.string a.pred)), .c (.v (.int .i64 a.n)), .c (.v (.bool a.a0.v)), .c (.v (.string a.a0.name)), .c (.v (.bool a.a1.v)), .c (.v (.string a.a1.name)), .c (.v (.bool a.a2.v)), .c (.v (.string a.a2.name)), .c (.v (.bool a.a3.v)), .c (.v (.string a.a3.name))] : List AV)⟩]
    generalize bodyF L n r4 = q at *
    obtain ⟨r5, B⟩ := q
    dsimp only at *
    have ap := fun hp => apRu a B hk.h4 hlr hp
    have b1 := bldRu a B
    have pc := plain1_col stC k.k1 p.prin
    have ac := avCells_col ruC (apK hw k.k4 p.rules) (p.rules ++ [⟨a, B.isEmpty, B⟩])
    refine ⟨⟨false, ([.c (.v (.string a.says)), .c (.v (.string a.pred)), .c (.v (.int .i64 a.n)), .c (.v (.bool a.a0.v)), .c (.v (.string a.a0.name)), .c (.v (.bool a.a1.v)), .c (.v (.string a.a1.name)), .c (.v (.bool a.a2.v)), .c (.v (.string a.a2.name)), .c (.v (.bool a.a3.v)), .c (.v (.string a.a3.name))] : List AV)⟩, { k with k4 := apK hw k.k4 p.rules }, apH hw k.k4 53 12 p.rules, hk.rules _, apH_len _ _ _ _ _, ?_⟩
    refine givesW_of' Try.func39 rfl (by kernel_rfl) Try.ntmps39 rfl rfl fun Q hQ => ?_
    refine tr_low fun hW => ?_
    have hWk : ∀ x : Rs, lowB 3 hw.length [z, rdB ex L n x, polB p k] = true := fun x => hW
    repeat (first | refine tr_seq_k fun _ _ => ?_ | (refine tr_region ?_; simp only [go_sem, reduceCtorEq, Nat.reduceEqDiff, Nat.reduceLT, Nat.reduceLeDiff, Nat.reduceAdd, Nat.reduceMul, Nat.reduceSub, Nat.reduceBEq, ↓reduceIte]) | (refine call_givesW (c1) ?_; (try dsimp only); (try simp only [go_sem, reduceCtorEq, Nat.reduceEqDiff, Nat.reduceLT, Nat.reduceLeDiff, Nat.reduceAdd, Nat.reduceMul, Nat.reduceSub, Nat.reduceBEq, ↓reduceIte])) | (refine call_givesW (c2) ?_; (try dsimp only); (try simp only [go_sem, reduceCtorEq, Nat.reduceEqDiff, Nat.reduceLT, Nat.reduceLeDiff, Nat.reduceAdd, Nat.reduceMul, Nat.reduceSub, Nat.reduceBEq, ↓reduceIte])) | refine k_of (by assumption) ?_)
    refine tr_meet_k (σ := Unit) (fun _ => [(0, .ptr 1 0), (1, .ptr 2 0), (4, sA who), (43, bA false)]) (fun _ => ⟨[z, rdB ex L n r1, polB p k], hw⟩) (fun _ => True) (fun K hK => ?_) (fun _ _ => ?_)
    · cases d1 : decide (r1.e = 0) with
      | false =>
        repeat ((refine tr_drawC (id := 2) follows 10000 (by kernel_rfl) ?_; simp only [go_sem, reduceCtorEq, Nat.reduceEqDiff, Nat.reduceLT, Nat.reduceLeDiff, Nat.reduceAdd, Nat.reduceMul, Nat.reduceSub, Nat.reduceBEq, ↓reduceIte, d1]))
        exact hK () _ _ trivial ⟨⟨rfl, rfl, rfl, rfl, trivial⟩, Keep.refl _, rfl, hWk _, Nat.le_refl _, Nat.le_refl _⟩
      | true =>
        by_cases hj : r1.i + 1 < L.length
        · have ix := idxTk (ex := ex) hj
          have hx : canT L r1 = decide (L[r1.i + 1].text = kCan) := by unfold canT; rw [d1, List.getElem?_eq_getElem hj]; rfl
          rw [hc] at hx
          have d2 : decide (((r1.i + 1 : Nat) : Int) < (L.length : Nat)) = true := decide_eq_true (by omega)
          generalize L[r1.i + 1] = t at *
          repeat ((refine tr_drawC (id := 2) follows 10000 (by kernel_rfl) ?_; simp only [go_sem, reduceCtorEq, Nat.reduceEqDiff, Nat.reduceLT, Nat.reduceLeDiff, Nat.reduceAdd, Nat.reduceMul, Nat.reduceSub, Nat.reduceBEq, ↓reduceIte, d1, d2, ix, ws, ← hx]))
          exact hK () _ _ trivial ⟨⟨rfl, rfl, rfl, rfl, trivial⟩, Keep.refl _, rfl, hWk _, Nat.le_refl _, Nat.le_refl _⟩
        · have d2 : decide (((r1.i + 1 : Nat) : Int) < (L.length : Nat)) = false := decide_eq_false (by omega)
          repeat ((refine tr_drawC (id := 2) follows 10000 (by kernel_rfl) ?_; simp only [go_sem, reduceCtorEq, Nat.reduceEqDiff, Nat.reduceLT, Nat.reduceLeDiff, Nat.reduceAdd, Nat.reduceMul, Nat.reduceSub, Nat.reduceBEq, ↓reduceIte, d1, d2, ws]))
          exact hK () _ _ trivial ⟨⟨rfl, rfl, rfl, rfl, trivial⟩, Keep.refl _, rfl, hWk _, Nat.le_refl _, Nat.le_refl _⟩
    refine k_of (by assumption) ?_
    skip
    refine tr_cond rfl (fun ht => ?_) (fun hf => ?_)
    · cases ht
    · repeat (first | refine tr_seq_k fun _ _ => ?_ | (refine tr_region ?_; simp only [go_sem, reduceCtorEq, Nat.reduceEqDiff, Nat.reduceLT, Nat.reduceLeDiff, Nat.reduceAdd, Nat.reduceMul, Nat.reduceSub, Nat.reduceBEq, ↓reduceIte]) | (refine call_givesW (c5) ?_; (try dsimp only); (try simp only [go_sem, reduceCtorEq, Nat.reduceEqDiff, Nat.reduceLT, Nat.reduceLeDiff, Nat.reduceAdd, Nat.reduceMul, Nat.reduceSub, Nat.reduceBEq, ↓reduceIte])) | refine k_of (by assumption) ?_ | (refine tr_skip ?_; try simp only [ex_seq, ex_block]))
      refine tr_drawX (id := 9) follows otSays (by kernel_rfl) [] ⟨[z, rdB ex L n r5, polB { p with rules := p.rules ++ [⟨a, B.isEmpty, B⟩] } { k with k4 := apK hw k.k4 p.rules }, ⟨false, ([.c (.v (.string a.says)), .c (.v (.string a.pred)), .c (.v (.int .i64 a.n)), .c (.v (.bool a.a0.v)), .c (.v (.string a.a0.name)), .c (.v (.bool a.a1.v)), .c (.v (.string a.a1.name)), .c (.v (.bool a.a2.v)), .c (.v (.string a.a2.name)), .c (.v (.bool a.a3.v)), .c (.v (.string a.a3.name))] : List AV)⟩], apH hw k.k4 53 12 p.rules⟩ ?_ ?_
      · unfold otSays
        simp only [go_sem, reduceCtorEq, Nat.reduceEqDiff, Nat.reduceLT, Nat.reduceLeDiff, Nat.reduceAdd, Nat.reduceMul, Nat.reduceSub, Nat.reduceBEq, ↓reduceIte, one_max, pc, ap, b1, ac]
        repeat' (first | (refine call_givesW (c6) ?_; (try dsimp only); (try simp only [go_sem, reduceCtorEq, Nat.reduceEqDiff, Nat.reduceLT, Nat.reduceLeDiff, Nat.reduceAdd, Nat.reduceMul, Nat.reduceSub, Nat.reduceBEq, ↓reduceIte, one_max, pc, ap, b1, ac])) | refine And.intro ?_ ?_ | rfl)
      · exact (hQ _ _ [] rfl rfl rfl).1
end Go.Proofs.Ytinbfakpjnnagaa
namespace Go.Proofs.Ytinbfakpjnnagaa
open Go.RowKit Go.Vs Go.Vs.Ab
set_option maxRecDepth 100000
set_option maxHeartbeats 4000000
variable {hw : List Hw} {ex : Bool} {L : List Tk} {n : Int}
theorem says_gives {z : Blk} {p : Pp} {k : Ks} (hk : KsOk hw p k) (hL : TkOk L) (r : Rs) (hr : r.i ≤ L.length) (hlr : p.rules.length ≤ 10000000) (hlg : p.grants.length ≤ 10000000) : ∃ (k' : Ks) (hw' : List Hw), KsOk hw' (saysF L n r p).2 k' ∧ hw.length ≤ hw'.length ∧
    GivesW Try.prog 39 [.ptr 1 0, .ptr 2 0] ⟨[z, rdB ex L n r, polB p k], hw⟩ (.tup []) ⟨[z, rdB ex L n (saysF L n r p).1, polB (saysF L n r p).2 k'], hw'⟩ := by
  obtain ⟨y, k', hw', h1, h2, h3⟩ := says_raw (z := z) (ex := ex) (n := n) hk hL r hr hlr hlg
  refine ⟨k', hw', h1, h2, h3.trim ⟨⟨[y], rfl⟩, ⟨[], (List.append_nil _).symm⟩⟩ (fun hl => ?_) (Nat.le_refl _) h2 cut_nil⟩
  simp only [lowB, Bool.and_eq_true] at hl ⊢
  exact ⟨lows_up (Nat.le_refl _) h2 hl.1, rfl, ksOk_low h1 _, trivial⟩
theorem must_ok {L : List Tk} {n : Int} {r : Rs} {s : ByteArray} (h : (mustT L n r s).e = 0) : isT L r s = true ∧ (mustT L n r s).i = r.i + 1 := by
  unfold mustT at *
  split at h
  · rename_i hc
    rw [if_pos hc]
    exact ⟨hc, rfl⟩
  · exfalso
    unfold Rs.fail at h
    split at h
    · cases h
    · rename_i hne
      exact hne h
theorem once_i {L : List Tk} {n : Int} {r : Rs} {b : Bool} : (onceR L n r b).i = r.i := by
  unfold onceR
  split
  · exact fail_i _ _ _ _ _
  · rfl
theorem says_i {L : List Tk} {n : Int} {r : Rs} {p : Pp} : r.i ≤ (saysF L n r p).1.i ∧ (r.i ≤ L.length → (saysF L n r p).1.i ≤ L.length) := by
  obtain ⟨h1, h2⟩ := next_i (L := L) (n := n) (r := r) (s := 0)
  obtain ⟨h3, h4⟩ := must_i (L := L) (n := n) (r := nextR L n r 0) (s := kSays)
  unfold saysF
  dsimp only
  split
  · obtain ⟨h5, h6⟩ := next_i (L := L) (n := n) (r := mustT L n (nextR L n r 0) kSays) (s := 0)
    obtain ⟨h7, h8⟩ := must_i (L := L) (n := n) (r := nextR L n (mustT L n (nextR L n r 0) kSays) 0) (s := kCan)
    obtain ⟨h9, h10⟩ := said_i (L := L) (n := n) (r := mustT L n (nextR L n (mustT L n (nextR L n r 0) kSays) 0) kCan) (s := nextS L r 0)
    obtain ⟨h11, h12⟩ := body_i (L := L) (n := n) (r := (saidF L n (mustT L n (nextR L n (mustT L n (nextR L n r 0) kSays) 0) kCan) (nextS L r 0)).1)
    dsimp only
    exact ⟨by omega, fun h => h12 (h10 (h8 (h6 (h4 (h2 h)))))⟩
  · obtain ⟨h9, h10⟩ := said_i (L := L) (n := n) (r := mustT L n (nextR L n r 0) kSays) (s := nextS L r 0)
    obtain ⟨h11, h12⟩ := body_i (L := L) (n := n) (r := (saidF L n (mustT L n (nextR L n r 0) kSays) (nextS L r 0)).1)
    dsimp only
    exact ⟨by omega, fun h => h12 (h10 (h4 (h2 h)))⟩
theorem says_len {L : List Tk} {n : Int} {r : Rs} {p : Pp} : (saysF L n r p).2.prin = p.prin ∧ (saysF L n r p).2.preds = p.preds ∧ (saysF L n r p).2.clears = p.clears ∧ (saysF L n r p).2.rules.length ≤ p.rules.length + 1 ∧ (saysF L n r p).2.grants.length ≤ p.grants.length + 1 := by
  unfold saysF
  dsimp only
  split
  · exact ⟨rfl, rfl, rfl, Nat.le_succ _, by simp⟩
  · exact ⟨rfl, rfl, rfl, by simp, Nat.le_succ _⟩
theorem polL_succ (L : List Tk) (n : Int) (f : Nat) (s : Pst) : polL L n (f + 1) s = if s.r.e = 0 ∧ s.r.i < L.length then polL L n f (stepF L n s) else s := rfl
theorem polL_end (L : List Tk) (n : Int) (f : Nat) (s : Pst) (h : ¬ (s.r.e = 0 ∧ s.r.i < L.length)) : polL L n f s = s := by
  cases f with
  | zero => rfl
  | succ f => rw [polL_succ, if_neg h]
theorem toks_text (s : ByteArray) : ∀ (f i : Nat) (out : List Tk), (∀ t ∈ out, t.text.size ≤ 1000000) → ∀ t ∈ (toksF s f i out).1, t.text.size ≤ 1000000
  | 0, i, out, h => h
  | f + 1, i, out, h => by
    rw [toksF_succ]
    split
    · rename_i hi
      split
      · exact h
      · rename_i he
        refine toks_text s f _ _ fun t ht => ?_
        rw [List.mem_append, List.mem_singleton] at ht
        rcases ht with ht | rfl
        · exact h t ht
        · have := tokAt_size hi (by simpa using he)
          omega
    · exact h
theorem tkOk_all (s : ByteArray) : TkOk (toksAll s).1 := by
  have h1 := toks_len s
  have h2 : ∀ t ∈ (toks s).1, t.text.size ≤ 1000000 := by
    unfold toks
    split
    · intro t ht; cases ht
    · exact toks_text s _ _ _ (fun t ht => by cases ht)
  unfold toksAll
  split
  · exact ⟨Nat.zero_le _, fun t ht => by cases ht⟩
  · exact ⟨by dsimp only; omega, h2⟩
theorem apS1 {hw : List Hw} {k : Nat} {l : List ByteArray} (x : ByteArray) (hI : ColIs hw k 9 1 l) (hl : l.length ≤ 10000000) (hp : List Blk) : aAppend Try.prog ⟨hp, hw⟩ 22 (colA stC k l) (.c (.sl true 1 [.v (.string x)])) = some (colA stC (apK hw k l) (l ++ [x]), ⟨hp, apH hw k 9 1 l⟩) :=
  app_gen (P := Try.prog) stC (x := x) (fun _ => rfl) Try.underlying22 info_s hI (ml hl) (by omega) hp
theorem apPd {hw : List Hw} {k : Nat} {l : List Prd} (x : ByteArray) (m : Int) (hI : ColIs hw k 58 2 l) (hl : l.length ≤ 10000000) (hp : List Blk) : aAppend Try.prog ⟨hp, hw⟩ 23 (colA prC k l) (.c (.sl true 1 [.v (.string x), .v (.int .i64 m)])) = some (colA prC (apK hw k l) (l ++ [⟨x, m⟩]), ⟨hp, apH hw k 58 2 l⟩) :=
  app_gen (P := Try.prog) prC (x := ⟨x, m⟩) (fun _ => rfl) Try.underlying23 info_pr hI (ml hl) (by omega) hp
theorem apCl {hw : List Hw} {k : Nat} {l : List Clr} (x : ByteArray) (B : List ByteArray) (hI : ColIs hw k 60 2 l) (hl : l.length ≤ 10000000) (hp : List Blk) : aAppend Try.prog ⟨hp, hw⟩ 24 (colA clC k l) (.c (.sl true 1 [.v (.string x), .sl B.isEmpty B.length (B.flatMap stC)])) = some (colA clC (apK hw k l) (l ++ [⟨x, B.isEmpty, B⟩]), ⟨hp, apH hw k 60 2 l⟩) :=
  app_gen (P := Try.prog) clC (x := ⟨x, B.isEmpty, B⟩) (fun _ => rfl) Try.underlying24 info_cl hI (ml hl) (by omega) hp
theorem bldPd (x : ByteArray) (m : Int) : aBuildSlice Try.prog 23 1 [(0, .agg [.v (.string x), .v (.int .i64 m)])] = some [.v (.string x), .v (.int .i64 m)] := build1 Try.underlying23 sz58 ze58 (by decide) (by decide) (by decide) rfl rfl
theorem bldCl (x : ByteArray) (B : List ByteArray) : aBuildSlice Try.prog 24 1 [(0, .agg [.v (.string x), .sl B.isEmpty B.length (B.flatMap stC)])] = some [.v (.string x), .sl B.isEmpty B.length (B.flatMap stC)] := build1 Try.underlying24 sz60 ze60 (by decide) (by decide) (by decide) rfl rfl
def otP1 : OT := .one 0 (.one 2 (.br 1 (.br 3 (.br 4 (.br 5 (.one 6 (.br 7 (.fin) (.stop))) (.stop)) (.stop)) (.stop)) (.br 3 (.br 1 (.br 4 (.br 5 (.one 6 (.br 7 (.fin) (.stop))) (.stop)) (.stop)) (.br 4 (.br 1 (.br 5 (.one 6 (.br 7 (.fin) (.stop))) (.stop)) (.stop)) (.stop))) (.stop))))
def otP3 : OT := .one 0 (.one 2 (.br 1 (.br 3 (.br 4 (.br 5 (.one 6 (.br 7 (.fin) (.stop))) (.stop)) (.stop)) (.stop)) (.br 3 (.br 1 (.br 4 (.br 5 (.one 6 (.br 7 (.fin) (.stop))) (.stop)) (.stop)) (.br 4 (.br 1 (.br 5 (.one 6 (.br 7 (.fin) (.stop))) (.stop)) (.stop)) (.stop))) (.stop))))
def otP9 : OT := .one 1 (.one 2 (.one 3 (.one 5 (.one 6 (.one 7 (.br 0 (.br 4 (.br 8 (.br 9 (.one 10 (.one 11 (.fin))) (.stop)) (.br 9 (.one 10 (.br 8 (.one 11 (.fin)) (.stop))) (.stop))) (.br 8 (.br 4 (.br 9 (.one 10 (.one 11 (.fin))) (.stop)) (.br 9 (.br 4 (.one 10 (.one 11 (.fin))) (.stop)) (.stop))) (.br 9 (.br 4 (.one 10 (.br 8 (.one 11 (.fin)) (.stop))) (.br 8 (.br 4 (.one 10 (.one 11 (.fin))) (.stop)) (.stop))) (.stop)))) (.br 4 (.br 0 (.br 8 (.br 9 (.one 10 (.one 11 (.fin))) (.stop)) (.br 9 (.one 10 (.br 8 (.one 11 (.fin)) (.stop))) (.stop))) (.br 8 (.br 0 (.br 9 (.one 10 (.one 11 (.fin))) (.stop)) (.stop)) (.stop))) (.br 8 (.br 0 (.br 4 (.br 9 (.one 10 (.one 11 (.fin))) (.stop)) (.br 9 (.br 4 (.one 10 (.one 11 (.fin))) (.stop)) (.stop))) (.br 4 (.br 0 (.br 9 (.one 10 (.one 11 (.fin))) (.stop)) (.stop)) (.stop))) (.stop)))))))))
theorem parsePol_does (s : ByteArray) (hz : s.size ≤ 1000000000) : Does Try.prog 13 [sA s] (fun m => (.tup [poA (polParse s).1, iA (polParse s).2.1, iA (polParse s).2.2], m)) := by
  have cA := allK_does s
  have hL := tkOk_all s
  obtain ⟨P, hP⟩ : ∃ P, P = polParse s := ⟨_, rfl⟩
  rw [← hP]
  unfold polParse at hP
  generalize toksAll s = q at *
  obtain ⟨L, pos, e⟩ := q
  dsimp only at *
  cases d0 : decide (e = 0) with
  | false =>
    rw [if_pos (of_decide_eq_false d0)] at hP
    rw [hP]
    refine does_of' Try.func13 rfl (by kernel_rfl) rfl Try.ntmps13 rfl rfl fun Q hQ => ?_
    repeat (first | refine tr_seq_k fun _ _ => ?_ | (refine tr_region ?_; simp only [go_sem, reduceCtorEq, Nat.reduceEqDiff, Nat.reduceLT, Nat.reduceLeDiff, Nat.reduceAdd, Nat.reduceMul, Nat.reduceSub, Nat.reduceBEq, ↓reduceIte, d0]) | (refine call_of (cA) ?_ ?_; (first | rfl | simp only [go_sem, reduceCtorEq, Nat.reduceEqDiff, Nat.reduceLT, Nat.reduceLeDiff, Nat.reduceAdd, Nat.reduceMul, Nat.reduceSub, Nat.reduceBEq, ↓reduceIte, d0, shut_col]); simp only [go_sem, reduceCtorEq, Nat.reduceEqDiff, Nat.reduceLT, Nat.reduceLeDiff, Nat.reduceAdd, Nat.reduceMul, Nat.reduceSub, Nat.reduceBEq, ↓reduceIte, d0]) | refine k_of (by assumption) ?_)
    refine tr_cond rfl (fun ht => ?_) (fun hf => ?_)
    · repeat (first | refine tr_seq_k fun _ _ => ?_ | (refine tr_region ?_; simp only [go_sem, reduceCtorEq, Nat.reduceEqDiff, Nat.reduceLT, Nat.reduceLeDiff, Nat.reduceAdd, Nat.reduceMul, Nat.reduceSub, Nat.reduceBEq, ↓reduceIte]) | refine k_of (by assumption) ?_ | (refine tr_ret ?_; try simp only [ex_seq_ret, ex_block_ret]))
      refine (hQ _ _ [.agg [.sl true 0 [], .sl true 0 [], .sl true 0 [], .v (.int .i64 0), .v (.int .i64 0), .sl true 0 [], .sl true 0 []], iA pos, iA e] ?_ (fun m => rfl)).2 <;> simp only [go_sem, reduceCtorEq, Nat.reduceEqDiff, Nat.reduceLT, Nat.reduceLeDiff, Nat.reduceAdd, Nat.reduceMul, Nat.reduceSub, Nat.reduceBEq, ↓reduceIte, Try.f13]
    · cases hf
  | true =>
    have he0 := of_decide_eq_true d0
    rw [if_neg (by rw [he0]; exact fun h => h rfl)] at hP
    obtain ⟨T, hT⟩ : ∃ T, T = polS L s.size := ⟨_, rfl⟩
    rw [← hT] at hP
    unfold polS at hT
    obtain ⟨n, hn⟩ : ∃ n : Int, n = s.size := ⟨_, rfl⟩
    obtain ⟨ex, hex⟩ : ∃ ex, ex = L.isEmpty := ⟨_, rfl⟩
    rw [← hn] at hT
    rw [← hex] at cA
    have hlen := hL.len
    refine does_of' Try.func13 rfl (by kernel_rfl) rfl Try.ntmps13 rfl rfl fun Q hQ => ?_
    repeat (first | refine tr_seq_k fun _ _ => ?_ | (refine tr_region ?_; simp only [go_sem, reduceCtorEq, Nat.reduceEqDiff, Nat.reduceLT, Nat.reduceLeDiff, Nat.reduceAdd, Nat.reduceMul, Nat.reduceSub, Nat.reduceBEq, ↓reduceIte, d0, ← hn]) | (refine call_of (cA) ?_ ?_; (first | rfl | simp only [go_sem, reduceCtorEq, Nat.reduceEqDiff, Nat.reduceLT, Nat.reduceLeDiff, Nat.reduceAdd, Nat.reduceMul, Nat.reduceSub, Nat.reduceBEq, ↓reduceIte, d0, ← hn, shut_col]); simp only [go_sem, reduceCtorEq, Nat.reduceEqDiff, Nat.reduceLT, Nat.reduceLeDiff, Nat.reduceAdd, Nat.reduceMul, Nat.reduceSub, Nat.reduceBEq, ↓reduceIte, d0, ← hn]) | refine k_of (by assumption) ?_)
    refine tr_cond rfl (fun ht => ?_) (fun hf => ?_)
    · cases ht
    repeat (first | refine tr_seq_k fun _ _ => ?_ | (refine tr_region ?_; simp only [go_sem, reduceCtorEq, Nat.reduceEqDiff, Nat.reduceLT, Nat.reduceLeDiff, Nat.reduceAdd, Nat.reduceMul, Nat.reduceSub, Nat.reduceBEq, ↓reduceIte, ← hn]) | refine k_of (by assumption) ?_ | refine tr_block ?_ | (refine tr_skip ?_; try simp only [ex_seq, ex_block]))
    refine tr_loop_k (σ := Nat × Pst × Ks × List Hw) (fun q => [(2, .ptr 0 0), (5, .c (.sl ex L.length (L.flatMap tkC))), (8, .ptr 1 0), (9, .ptr 2 0), (10, bA q.2.1.wq), (11, bA q.2.1.wb)]) (fun q => ⟨[⟨false, [.c (.sl true 0 []), .c (.sl true 0 []), .c (.sl true 0 []), iA 0, iA 0, .c (.sl true 0 []), .c (.sl true 0 [])]⟩, rdB ex L n q.2.1.r, polB q.2.1.p q.2.2.1], q.2.2.2⟩)
      (fun q => polL L n q.1 q.2.1 = T ∧ (q.2.1.r.e = 0 → L.length < q.1 + q.2.1.r.i) ∧ q.2.1.r.i ≤ L.length ∧ KsOk q.2.2.2 q.2.1.p q.2.2.1 ∧ q.2.1.p.prin.length + q.1 ≤ L.length + 1 ∧ q.2.1.p.preds.length + q.1 ≤ L.length + 1 ∧ q.2.1.p.clears.length + q.1 ≤ L.length + 1 ∧ q.2.1.p.rules.length + q.1 ≤ L.length + 1 ∧ q.2.1.p.grants.length + q.1 ≤ L.length + 1) (fun q => q.1) (L.length + 1, ⟨⟨0, 0, 0⟩, pp0, false, false⟩, ⟨0, 0, 0, 0, 0⟩, [])
      ⟨hT.symm, fun _ => by dsimp only; omega, Nat.zero_le _, ⟨colIs_nil _ _ _ _, colIs_nil _ _ _ _, colIs_nil _ _ _ _, colIs_nil _ _ _ _, colIs_nil _ _ _ _⟩, by simp [pp0], by simp [pp0], by simp [pp0], by simp [pp0], by simp [pp0]⟩ ⟨rfl, rfl, rfl, rfl, rfl, rfl, trivial⟩ rfl ?_
    rintro ⟨f, ⟨r, p, wq, wb⟩, k, hw⟩ ⟨hS, hfi, hi, hk, b1, b2, b3, b4, b5⟩ K hK
    dsimp only at hS hfi hi hk b1 b2 b3 b4 b5 ⊢
    have e1 := clean_col stC k.k1 p.prin
    have e2 := clean_col prC k.k2 p.preds
    have e3 := clean_col clC k.k3 p.clears
    have e4 := clean_col ruC k.k4 p.rules
    have e5 := clean_col grC k.k5 p.grants
    cases d1 : decide (r.e = 0) with
    | false =>
      rw [polL_end _ _ _ _ (fun h => of_decide_eq_false d1 h.1)] at hS
      obtain rfl := hS
      dsimp only at hP
      repeat (first | refine tr_seq_k fun _ _ => ?_ | (refine tr_region ?_; simp only [go_sem, reduceCtorEq, Nat.reduceEqDiff, Nat.reduceLT, Nat.reduceLeDiff, Nat.reduceAdd, Nat.reduceMul, Nat.reduceSub, Nat.reduceBEq, ↓reduceIte, d1]) | refine k_of (by assumption) ?_)
      refine tr_cond rfl (fun ht => ?_) (fun hf => ?_)
      · cases ht
      · rw [if_pos (of_decide_eq_false d1)] at hP
        rw [hP] at hQ
        repeat (first | refine tr_seq_k fun _ _ => ?_ | (refine tr_region ?_; simp only [go_sem, reduceCtorEq, Nat.reduceEqDiff, Nat.reduceLT, Nat.reduceLeDiff, Nat.reduceAdd, Nat.reduceMul, Nat.reduceSub, Nat.reduceBEq, ↓reduceIte, d1]) | refine k_of (by assumption) ?_ | (refine tr_exit ?_; try simp only [ex_seq_exit, ex_block_exit, Nat.reduceEqDiff, if_true, if_false, ex_seq, ex_block, reduceCtorEq, ↓reduceIte]))
        refine tr_cond rfl (fun ht => ?_) (fun hf => ?_)
        · repeat (refine tr_seq_k fun _ _ => ?_)
          refine tr_drawX (id := 26) follows otP9 (by kernel_rfl) [(2, .ptr 0 0), (3, iA r.at_), (4, iA r.e)] ⟨[⟨false, [.c (.sl true 0 []), .c (.sl true 0 []), .c (.sl true 0 []), iA 0, iA 0, .c (.sl true 0 []), .c (.sl true 0 [])]⟩, rdB ex L n r, polB p k], hw⟩ ?_ ?_
          · unfold otP9
            simp only [go_sem, reduceCtorEq, Nat.reduceEqDiff, Nat.reduceLT, Nat.reduceLeDiff, Nat.reduceAdd, Nat.reduceMul, Nat.reduceSub, Nat.reduceBEq, ↓reduceIte]
            skip
          · repeat (first | refine k_of (by assumption) ?_ | (refine tr_ret ?_; try simp only [ex_seq_ret, ex_block_ret]))
            refine (hQ _ _ [.agg [.sl true 0 [], .sl true 0 [], .sl true 0 [], .v (.int .i64 0), .v (.int .i64 0), .sl true 0 [], .sl true 0 []], iA r.at_, iA r.e] ?_ (fun m => rfl)).2 <;> simp only [go_sem, reduceCtorEq, Nat.reduceEqDiff, Nat.reduceLT, Nat.reduceLeDiff, Nat.reduceAdd, Nat.reduceMul, Nat.reduceSub, Nat.reduceBEq, ↓reduceIte, Try.f13]
        · cases hf
    | true =>
      by_cases hil : r.i < L.length
      rotate_left
      · rw [polL_end _ _ _ _ (fun h => hil h.2)] at hS
        obtain rfl := hS
        dsimp only at hP
        have d2 : decide ((r.i : Int) < (L.length : Nat)) = false := decide_eq_false (by omega)
        repeat (first | refine tr_seq_k fun _ _ => ?_ | (refine tr_region ?_; simp only [go_sem, reduceCtorEq, Nat.reduceEqDiff, Nat.reduceLT, Nat.reduceLeDiff, Nat.reduceAdd, Nat.reduceMul, Nat.reduceSub, Nat.reduceBEq, ↓reduceIte, d1, d2]) | refine k_of (by assumption) ?_)
        refine tr_cond rfl (fun ht => ?_) (fun hf => ?_)
        · cases ht
        · rw [if_neg (fun h => h (of_decide_eq_true d1))] at hP
          rw [hP] at hQ
          repeat (first | refine tr_seq_k fun _ _ => ?_ | (refine tr_region ?_; simp only [go_sem, reduceCtorEq, Nat.reduceEqDiff, Nat.reduceLT, Nat.reduceLeDiff, Nat.reduceAdd, Nat.reduceMul, Nat.reduceSub, Nat.reduceBEq, ↓reduceIte, d1]) | refine k_of (by assumption) ?_ | (refine tr_exit ?_; try simp only [ex_seq_exit, ex_block_exit, Nat.reduceEqDiff, if_true, if_false, ex_seq, ex_block, reduceCtorEq, ↓reduceIte]))
          refine tr_cond rfl (fun ht => ?_) (fun hf => ?_)
          · cases ht
          · repeat (first | refine tr_seq_k fun _ _ => ?_ | (refine tr_region ?_; simp only [go_sem, reduceCtorEq, Nat.reduceEqDiff, Nat.reduceLT, Nat.reduceLeDiff, Nat.reduceAdd, Nat.reduceMul, Nat.reduceSub, Nat.reduceBEq, ↓reduceIte, e1, e2, e3, e4, e5]) | refine k_of (by assumption) ?_ | (refine tr_skip ?_; try simp only [ex_seq, ex_block]) | (refine tr_ret ?_; try simp only [ex_seq_ret, ex_block_ret]))
            refine (hQ _ _ [.agg [.sl p.prin.isEmpty p.prin.length (p.prin.flatMap stC), .sl p.preds.isEmpty p.preds.length (p.preds.flatMap prC), .sl p.clears.isEmpty p.clears.length (p.clears.flatMap clC), .v (.int .i64 p.quota), .v (.int .i64 p.budget), .sl p.rules.isEmpty p.rules.length (p.rules.flatMap ruC), .sl p.grants.isEmpty p.grants.length (p.grants.flatMap grC)], iA 0, iA 0] ?_ (fun m => rfl)).2 <;> simp only [go_sem, reduceCtorEq, Nat.reduceEqDiff, Nat.reduceLT, Nat.reduceLeDiff, Nat.reduceAdd, Nat.reduceMul, Nat.reduceSub, Nat.reduceBEq, ↓reduceIte, Try.f13]
      have d2 : decide ((r.i : Int) < (L.length : Nat)) = true := decide_eq_true (by omega)
      have hfi := hfi (of_decide_eq_true d1)
      obtain ⟨f, rfl⟩ : ∃ f', f = f' + 1 := ⟨f - 1, by omega⟩
      rw [polL_succ, if_pos ⟨of_decide_eq_true d1, hil⟩] at hS
      have cm0 := rd3 (fun A' hb' => maybe_gives (A := A') (hw := hw) (ex := ex) (n := n) hb' hL.len r kPrin) ⟨false, [.c (.sl true 0 []), .c (.sl true 0 []), .c (.sl true 0 []), iA 0, iA 0, .c (.sl true 0 []), .c (.sl true 0 [])]⟩ [polB p k]
      have cm1 := rd3 (fun A' hb' => maybe_gives (A := A') (hw := hw) (ex := ex) (n := n) hb' hL.len r kPred) ⟨false, [.c (.sl true 0 []), .c (.sl true 0 []), .c (.sl true 0 []), iA 0, iA 0, .c (.sl true 0 []), .c (.sl true 0 [])]⟩ [polB p k]
      have cm2 := rd3 (fun A' hb' => maybe_gives (A := A') (hw := hw) (ex := ex) (n := n) hb' hL.len r kClear) ⟨false, [.c (.sl true 0 []), .c (.sl true 0 []), .c (.sl true 0 []), iA 0, iA 0, .c (.sl true 0 []), .c (.sl true 0 [])]⟩ [polB p k]
      have cm3 := rd3 (fun A' hb' => maybe_gives (A := A') (hw := hw) (ex := ex) (n := n) hb' hL.len r kQuota) ⟨false, [.c (.sl true 0 []), .c (.sl true 0 []), .c (.sl true 0 []), iA 0, iA 0, .c (.sl true 0 []), .c (.sl true 0 [])]⟩ [polB p k]
      have cm4 := rd3 (fun A' hb' => maybe_gives (A := A') (hw := hw) (ex := ex) (n := n) hb' hL.len r kBudget) ⟨false, [.c (.sl true 0 []), .c (.sl true 0 []), .c (.sl true 0 []), iA 0, iA 0, .c (.sl true 0 []), .c (.sl true 0 [])]⟩ [polB p k]
      unfold maybeR at cm0 cm1 cm2 cm3 cm4
      repeat (first | refine tr_seq_k fun _ _ => ?_ | (refine tr_region ?_; simp only [go_sem, reduceCtorEq, Nat.reduceEqDiff, Nat.reduceLT, Nat.reduceLeDiff, Nat.reduceAdd, Nat.reduceMul, Nat.reduceSub, Nat.reduceBEq, ↓reduceIte, d1, d2]) | refine k_of (by assumption) ?_)
      refine tr_cond rfl (fun ht => ?_) (fun hf => ?_)
      rotate_left
      · cases hf
      cases h1 : isT L r kPrin with
      | true =>
        have hlt := (isT_lt h1).2
        rw [h1, if_pos rfl] at cm0
        have cN := rd3 (fun A' hb' => next_gives (A := A') (hw := hw) (ex := ex) (n := n) hb' hL r.adv 0 (by omega)) ⟨false, [.c (.sl true 0 []), .c (.sl true 0 []), .c (.sl true 0 []), iA 0, iA 0, .c (.sl true 0 []), .c (.sl true 0 [])]⟩ [polB p k]
        have hni := next_i (L := L) (n := n) (r := r.adv) (s := 0)
        have hadv : r.adv.i = r.i + 1 := rfl
        have hst : stepF L n ⟨r, p, wq, wb⟩ = ⟨mustT L n (nextR L n r.adv 0) kDot, { p with prin := p.prin ++ [nextS L r.adv 0] }, wq, wb⟩ := by
          unfold stepF armF
          dsimp only
          simp only [h1, if_true, if_false, Bool.false_eq_true]
        rw [hst] at hS
        generalize nextS L r.adv 0 = x at *
        generalize nextR L n r.adv 0 = r2 at *
        have ap := fun hp => apS1 x hk.h1 (by omega) hp
        have bx := build1T x
        have cD := rd3 (fun A' hb' => must_gives (A := A') (hw := (apH hw k.k1 9 1 p.prin)) (ex := ex) (n := n) hb' hL.len r2 kDot) ⟨false, [.c (.sl true 0 []), .c (.sl true 0 []), .c (.sl true 0 []), iA 0, iA 0, .c (.sl true 0 []), .c (.sl true 0 [])]⟩ [polB { p with prin := p.prin ++ [x] } { k with k1 := apK hw k.k1 p.prin }]
        repeat (first | refine tr_seq_k fun _ _ => ?_ | (refine tr_region ?_; simp only [go_sem, reduceCtorEq, Nat.reduceEqDiff, Nat.reduceLT, Nat.reduceLeDiff, Nat.reduceAdd, Nat.reduceMul, Nat.reduceSub, Nat.reduceBEq, ↓reduceIte]) | (refine call_givesW (cm0) ?_; (try dsimp only); (try simp only [go_sem, reduceCtorEq, Nat.reduceEqDiff, Nat.reduceLT, Nat.reduceLeDiff, Nat.reduceAdd, Nat.reduceMul, Nat.reduceSub, Nat.reduceBEq, ↓reduceIte])) | refine k_of (by assumption) ?_ | refine tr_block ?_ | (refine tr_skip ?_; try simp only [ex_seq, ex_block]))
        refine tr_cond rfl (fun ht => ?_) (fun hf => ?_)
        rotate_left
        · cases hf
        skip
        refine tr_drawX (id := 10) follows otP1 (by kernel_rfl) [(2, .ptr 0 0), (5, .c (.sl ex L.length (L.flatMap tkC))), (8, .ptr 1 0), (9, .ptr 2 0), (10, bA wq), (11, bA wb)] ⟨[⟨false, [.c (.sl true 0 []), .c (.sl true 0 []), .c (.sl true 0 []), iA 0, iA 0, .c (.sl true 0 []), .c (.sl true 0 [])]⟩, rdB ex L n r2, polB { p with prin := p.prin ++ [x] } { k with k1 := apK hw k.k1 p.prin }], (apH hw k.k1 9 1 p.prin)⟩ ?_ ?_
        · unfold otP1
          simp only [go_sem, reduceCtorEq, Nat.reduceEqDiff, Nat.reduceLT, Nat.reduceLeDiff, Nat.reduceAdd, Nat.reduceMul, Nat.reduceSub, Nat.reduceBEq, ↓reduceIte, one_max, ap, bx, avCells_col]
          repeat' (first | (refine call_givesW (cN) ?_; (try dsimp only); (try simp only [go_sem, reduceCtorEq, Nat.reduceEqDiff, Nat.reduceLT, Nat.reduceLeDiff, Nat.reduceAdd, Nat.reduceMul, Nat.reduceSub, Nat.reduceBEq, ↓reduceIte, one_max, ap, bx, avCells_col])) | refine And.intro ?_ ?_ | rfl)
        · repeat (first | (refine tr_region ?_; simp only [go_sem, reduceCtorEq, Nat.reduceEqDiff, Nat.reduceLT, Nat.reduceLeDiff, Nat.reduceAdd, Nat.reduceMul, Nat.reduceSub, Nat.reduceBEq, ↓reduceIte]) | (refine call_givesW (cD) ?_; (try dsimp only); (try simp only [go_sem, reduceCtorEq, Nat.reduceEqDiff, Nat.reduceLT, Nat.reduceLeDiff, Nat.reduceAdd, Nat.reduceMul, Nat.reduceSub, Nat.reduceBEq, ↓reduceIte])) | refine k_of (by assumption) ?_)
          have hmi := must_i (L := L) (n := n) (r := r2) (s := kDot)
          exact hK (f, ⟨mustT L n r2 kDot, { p with prin := p.prin ++ [x] }, wq, wb⟩, { k with k1 := apK hw k.k1 p.prin }, (apH hw k.k1 9 1 p.prin)) _ _ ⟨hS, fun h => (by have := (must_ok h).2; dsimp only at this ⊢; rw [this]; omega), by dsimp only; omega, hk.prin x, by simp only [List.length_append, List.length_cons, List.length_nil]; omega, by dsimp only; omega, by dsimp only; omega, by dsimp only; omega, by dsimp only; omega⟩ ⟨⟨rfl, rfl, rfl, rfl, rfl, rfl, trivial⟩, Keep.refl _, rfl, by simp only [lowB, Bool.and_eq_true]; exact ⟨rfl, rfl, ksOk_low (hk.prin x) _, trivial⟩, Nat.le_refl _, Nat.zero_le _⟩ (by dsimp only; omega)
      | false =>
        rw [h1, if_neg Bool.false_ne_true] at cm0
        cases h2 : isT L r kPred with
        | true =>
          have hlt := (isT_lt h2).2
          rw [h2, if_pos rfl] at cm1
          have cN := rd3 (fun A' hb' => next_gives (A := A') (hw := hw) (ex := ex) (n := n) hb' hL r.adv 1 (by omega)) ⟨false, [.c (.sl true 0 []), .c (.sl true 0 []), .c (.sl true 0 []), iA 0, iA 0, .c (.sl true 0 []), .c (.sl true 0 [])]⟩ [polB p k]
          have hni := next_i (L := L) (n := n) (r := r.adv) (s := 1)
          have hadv : r.adv.i = r.i + 1 := rfl
          have hmi2 := must_i (L := L) (n := n) (r := nextR L n r.adv 1) (s := kSl)
          have hni2 := next_i (L := L) (n := n) (r := mustT L n (nextR L n r.adv 1) kSl) (s := 3)
          have hst : stepF L n ⟨r, p, wq, wb⟩ = ⟨mustT L n (nextR L n (mustT L n (nextR L n r.adv 1) kSl) 3) kDot, { p with preds := p.preds ++ [⟨nextS L r.adv 1, numB (nextS L (mustT L n (nextR L n r.adv 1) kSl) 3)⟩] }, wq, wb⟩ := by
            unfold stepF armF
            dsimp only
            simp only [h1, h2, if_true, if_false, Bool.false_eq_true]
          rw [hst] at hS
          generalize nextS L r.adv 1 = x at *
          generalize nextR L n r.adv 1 = r2 at *
          have cS := rd3 (fun A' hb' => must_gives (A := A') (hw := hw) (ex := ex) (n := n) hb' hL.len r2 kSl) ⟨false, [.c (.sl true 0 []), .c (.sl true 0 []), .c (.sl true 0 []), iA 0, iA 0, .c (.sl true 0 []), .c (.sl true 0 [])]⟩ [polB p k, ⟨false, [sA x, iA 0]⟩]
          generalize mustT L n r2 kSl = r3 at *
          have cU := rd3 (fun A' hb' => number_gives (A := A') (hw := hw) (ex := ex) (n := n) hb' hL r3) ⟨false, [.c (.sl true 0 []), .c (.sl true 0 []), .c (.sl true 0 []), iA 0, iA 0, .c (.sl true 0 []), .c (.sl true 0 [])]⟩ [polB p k, ⟨false, [sA x, iA 0]⟩]
          generalize numB (nextS L r3 3) = u at *
          generalize nextR L n r3 3 = r4 at *
          have ap := fun hp => apPd x u hk.h2 (by omega) hp
          have bx := bldPd x u
          have cD := rd3 (fun A' hb' => must_gives (A := A') (hw := (apH hw k.k2 58 2 p.preds)) (ex := ex) (n := n) hb' hL.len r4 kDot) ⟨false, [.c (.sl true 0 []), .c (.sl true 0 []), .c (.sl true 0 []), iA 0, iA 0, .c (.sl true 0 []), .c (.sl true 0 [])]⟩ [polB { p with preds := p.preds ++ [⟨x, u⟩] } { k with k2 := apK hw k.k2 p.preds }, ⟨false, [sA x, iA u]⟩]
          repeat (first | refine tr_seq_k fun _ _ => ?_ | (refine tr_region ?_; simp only [go_sem, reduceCtorEq, Nat.reduceEqDiff, Nat.reduceLT, Nat.reduceLeDiff, Nat.reduceAdd, Nat.reduceMul, Nat.reduceSub, Nat.reduceBEq, ↓reduceIte]) | (refine call_givesW (cm0) ?_; (try dsimp only); (try simp only [go_sem, reduceCtorEq, Nat.reduceEqDiff, Nat.reduceLT, Nat.reduceLeDiff, Nat.reduceAdd, Nat.reduceMul, Nat.reduceSub, Nat.reduceBEq, ↓reduceIte])) | refine k_of (by assumption) ?_ | refine tr_block ?_ | (refine tr_skip ?_; try simp only [ex_seq, ex_block]))
          refine tr_cond rfl (fun ht => ?_) (fun hf => ?_)
          · cases ht
          repeat (first | refine tr_seq_k fun _ _ => ?_ | (refine tr_region ?_; simp only [go_sem, reduceCtorEq, Nat.reduceEqDiff, Nat.reduceLT, Nat.reduceLeDiff, Nat.reduceAdd, Nat.reduceMul, Nat.reduceSub, Nat.reduceBEq, ↓reduceIte]) | (refine call_givesW (cm1) ?_; (try dsimp only); (try simp only [go_sem, reduceCtorEq, Nat.reduceEqDiff, Nat.reduceLT, Nat.reduceLeDiff, Nat.reduceAdd, Nat.reduceMul, Nat.reduceSub, Nat.reduceBEq, ↓reduceIte])) | refine k_of (by assumption) ?_)
          refine tr_cond rfl (fun ht => ?_) (fun hf => ?_)
          rotate_left
          · cases hf
          repeat (first | refine tr_seq_k fun _ _ => ?_ | (refine tr_region ?_; simp only [go_sem, reduceCtorEq, Nat.reduceEqDiff, Nat.reduceLT, Nat.reduceLeDiff, Nat.reduceAdd, Nat.reduceMul, Nat.reduceSub, Nat.reduceBEq, ↓reduceIte, one_max, ap, bx, avCells_col]) | (refine call_givesW (cN) ?_; (try dsimp only); (try simp only [go_sem, reduceCtorEq, Nat.reduceEqDiff, Nat.reduceLT, Nat.reduceLeDiff, Nat.reduceAdd, Nat.reduceMul, Nat.reduceSub, Nat.reduceBEq, ↓reduceIte, one_max, ap, bx, avCells_col])) | (refine call_givesW (cS) ?_; (try dsimp only); (try simp only [go_sem, reduceCtorEq, Nat.reduceEqDiff, Nat.reduceLT, Nat.reduceLeDiff, Nat.reduceAdd, Nat.reduceMul, Nat.reduceSub, Nat.reduceBEq, ↓reduceIte, one_max, ap, bx, avCells_col])) | (refine call_givesW (cU) ?_; (try dsimp only); (try simp only [go_sem, reduceCtorEq, Nat.reduceEqDiff, Nat.reduceLT, Nat.reduceLeDiff, Nat.reduceAdd, Nat.reduceMul, Nat.reduceSub, Nat.reduceBEq, ↓reduceIte, one_max, ap, bx, avCells_col])) | (refine call_givesW (cD) ?_; (try dsimp only); (try simp only [go_sem, reduceCtorEq, Nat.reduceEqDiff, Nat.reduceLT, Nat.reduceLeDiff, Nat.reduceAdd, Nat.reduceMul, Nat.reduceSub, Nat.reduceBEq, ↓reduceIte, one_max, ap, bx, avCells_col])) | refine k_of (by assumption) ?_)
          have hmi := must_i (L := L) (n := n) (r := r4) (s := kDot)
          exact hK (f, ⟨mustT L n r4 kDot, { p with preds := p.preds ++ [⟨x, u⟩] }, wq, wb⟩, { k with k2 := apK hw k.k2 p.preds }, (apH hw k.k2 58 2 p.preds)) _ _ ⟨hS, fun h => (by have := (must_ok h).2; dsimp only at this ⊢; rw [this]; omega), by dsimp only; omega, hk.preds ⟨x, u⟩, by dsimp only; omega, by simp only [List.length_append, List.length_cons, List.length_nil]; omega, by dsimp only; omega, by dsimp only; omega, by dsimp only; omega⟩ ⟨⟨rfl, rfl, rfl, rfl, rfl, rfl, trivial⟩, Keep.of (eh := [_]) (ew := []) rfl (List.append_nil _).symm, rfl, by simp only [lowB, Bool.and_eq_true]; exact ⟨rfl, rfl, ksOk_low (hk.preds ⟨x, u⟩) _, trivial⟩, Nat.le_refl _, Nat.zero_le _⟩ (by dsimp only; omega)
        | false =>
          rw [h2, if_neg Bool.false_ne_true] at cm1
          cases h3 : isT L r kClear with
          | true =>
            have hlt := (isT_lt h3).2
            rw [h3, if_pos rfl] at cm2
            have cN := rd3 (fun A' hb' => clear_gives (A := A') (hw := hw) (ex := ex) (n := n) hb' hL r.adv hlt) ⟨false, [.c (.sl true 0 []), .c (.sl true 0 []), .c (.sl true 0 []), iA 0, iA 0, .c (.sl true 0 []), .c (.sl true 0 [])]⟩ [polB p k]
            have hni := clear_i (L := L) (n := n) (r := r.adv)
            have hadv : r.adv.i = r.i + 1 := rfl
            have hst : stepF L n ⟨r, p, wq, wb⟩ = ⟨mustT L n (clearF L n r.adv).1 kDot, { p with clears := p.clears ++ [⟨(clearF L n r.adv).2.1, (clearF L n r.adv).2.2.isEmpty, (clearF L n r.adv).2.2⟩] }, wq, wb⟩ := by
              unfold stepF armF
              dsimp only
              simp only [h1, h2, h3, if_true, if_false, Bool.false_eq_true]
            rw [hst] at hS
            generalize clearF L n r.adv = q at *
            obtain ⟨r2, x, B⟩ := q
            dsimp only at *
            have ap := fun hp => apCl x B hk.h3 (by omega) hp
            have bx := bldCl x B
            have cD := rd3 (fun A' hb' => must_gives (A := A') (hw := (apH hw k.k3 60 2 p.clears)) (ex := ex) (n := n) hb' hL.len r2 kDot) ⟨false, [.c (.sl true 0 []), .c (.sl true 0 []), .c (.sl true 0 []), iA 0, iA 0, .c (.sl true 0 []), .c (.sl true 0 [])]⟩ [polB { p with clears := p.clears ++ [⟨x, B.isEmpty, B⟩] } { k with k3 := apK hw k.k3 p.clears }]
            repeat (first | refine tr_seq_k fun _ _ => ?_ | (refine tr_region ?_; simp only [go_sem, reduceCtorEq, Nat.reduceEqDiff, Nat.reduceLT, Nat.reduceLeDiff, Nat.reduceAdd, Nat.reduceMul, Nat.reduceSub, Nat.reduceBEq, ↓reduceIte]) | (refine call_givesW (cm0) ?_; (try dsimp only); (try simp only [go_sem, reduceCtorEq, Nat.reduceEqDiff, Nat.reduceLT, Nat.reduceLeDiff, Nat.reduceAdd, Nat.reduceMul, Nat.reduceSub, Nat.reduceBEq, ↓reduceIte])) | refine k_of (by assumption) ?_ | refine tr_block ?_ | (refine tr_skip ?_; try simp only [ex_seq, ex_block]))
            refine tr_cond rfl (fun ht => ?_) (fun hf => ?_)
            · cases ht
            repeat (first | refine tr_seq_k fun _ _ => ?_ | (refine tr_region ?_; simp only [go_sem, reduceCtorEq, Nat.reduceEqDiff, Nat.reduceLT, Nat.reduceLeDiff, Nat.reduceAdd, Nat.reduceMul, Nat.reduceSub, Nat.reduceBEq, ↓reduceIte]) | (refine call_givesW (cm1) ?_; (try dsimp only); (try simp only [go_sem, reduceCtorEq, Nat.reduceEqDiff, Nat.reduceLT, Nat.reduceLeDiff, Nat.reduceAdd, Nat.reduceMul, Nat.reduceSub, Nat.reduceBEq, ↓reduceIte])) | refine k_of (by assumption) ?_)
            refine tr_cond rfl (fun ht => ?_) (fun hf => ?_)
            · cases ht
            repeat (first | refine tr_seq_k fun _ _ => ?_ | (refine tr_region ?_; simp only [go_sem, reduceCtorEq, Nat.reduceEqDiff, Nat.reduceLT, Nat.reduceLeDiff, Nat.reduceAdd, Nat.reduceMul, Nat.reduceSub, Nat.reduceBEq, ↓reduceIte]) | (refine call_givesW (cm2) ?_; (try dsimp only); (try simp only [go_sem, reduceCtorEq, Nat.reduceEqDiff, Nat.reduceLT, Nat.reduceLeDiff, Nat.reduceAdd, Nat.reduceMul, Nat.reduceSub, Nat.reduceBEq, ↓reduceIte])) | refine k_of (by assumption) ?_)
            refine tr_cond rfl (fun ht => ?_) (fun hf => ?_)
            rotate_left
            · cases hf
            skip
            refine tr_drawX (id := 17) follows otP3 (by kernel_rfl) [(2, .ptr 0 0), (5, .c (.sl ex L.length (L.flatMap tkC))), (8, .ptr 1 0), (9, .ptr 2 0), (10, bA wq), (11, bA wb)] ⟨[⟨false, [.c (.sl true 0 []), .c (.sl true 0 []), .c (.sl true 0 []), iA 0, iA 0, .c (.sl true 0 []), .c (.sl true 0 [])]⟩, rdB ex L n r2, polB { p with clears := p.clears ++ [⟨x, B.isEmpty, B⟩] } { k with k3 := apK hw k.k3 p.clears }], (apH hw k.k3 60 2 p.clears)⟩ ?_ ?_
            · unfold otP3
              simp only [go_sem, reduceCtorEq, Nat.reduceEqDiff, Nat.reduceLT, Nat.reduceLeDiff, Nat.reduceAdd, Nat.reduceMul, Nat.reduceSub, Nat.reduceBEq, ↓reduceIte, one_max, ap, bx, avCells_col]
              repeat' (first | (refine call_givesW (cN) ?_; (try dsimp only); (try simp only [go_sem, reduceCtorEq, Nat.reduceEqDiff, Nat.reduceLT, Nat.reduceLeDiff, Nat.reduceAdd, Nat.reduceMul, Nat.reduceSub, Nat.reduceBEq, ↓reduceIte, one_max, ap, bx, avCells_col])) | refine And.intro ?_ ?_ | rfl)
            · repeat (first | (refine tr_region ?_; simp only [go_sem, reduceCtorEq, Nat.reduceEqDiff, Nat.reduceLT, Nat.reduceLeDiff, Nat.reduceAdd, Nat.reduceMul, Nat.reduceSub, Nat.reduceBEq, ↓reduceIte]) | (refine call_givesW (cD) ?_; (try dsimp only); (try simp only [go_sem, reduceCtorEq, Nat.reduceEqDiff, Nat.reduceLT, Nat.reduceLeDiff, Nat.reduceAdd, Nat.reduceMul, Nat.reduceSub, Nat.reduceBEq, ↓reduceIte])) | refine k_of (by assumption) ?_)
              have hmi := must_i (L := L) (n := n) (r := r2) (s := kDot)
              exact hK (f, ⟨mustT L n r2 kDot, { p with clears := p.clears ++ [⟨x, B.isEmpty, B⟩] }, wq, wb⟩, { k with k3 := apK hw k.k3 p.clears }, (apH hw k.k3 60 2 p.clears)) _ _ ⟨hS, fun h => (by have := (must_ok h).2; dsimp only at this ⊢; rw [this]; omega), by dsimp only; omega, hk.clears ⟨x, B.isEmpty, B⟩, by dsimp only; omega, by dsimp only; omega, by simp only [List.length_append, List.length_cons, List.length_nil]; omega, by dsimp only; omega, by dsimp only; omega⟩ ⟨⟨rfl, rfl, rfl, rfl, rfl, rfl, trivial⟩, Keep.refl _, rfl, by simp only [lowB, Bool.and_eq_true]; exact ⟨rfl, rfl, ksOk_low (hk.clears ⟨x, B.isEmpty, B⟩) _, trivial⟩, Nat.le_refl _, Nat.zero_le _⟩ (by dsimp only; omega)
          | false =>
            rw [h3, if_neg Bool.false_ne_true] at cm2
            cases h4 : isT L r kQuota with
            | true =>
              have hlt := (isT_lt h4).2
              rw [h4, if_pos rfl] at cm3
              have cN := rd3 (fun A' hb' => once_gives (A := A') (hw := hw) (ex := ex) (n := n) hb' hL r.adv wq (Nat.le_add_left _ _) hlt) ⟨false, [.c (.sl true 0 []), .c (.sl true 0 []), .c (.sl true 0 []), iA 0, iA 0, .c (.sl true 0 []), .c (.sl true 0 [])]⟩ [polB p k]
              have hni := once_i (L := L) (n := n) (r := r.adv) (b := wq)
              have hadv : r.adv.i = r.i + 1 := rfl
              have hni2 := next_i (L := L) (n := n) (r := onceR L n r.adv wq) (s := 3)
              have hst : stepF L n ⟨r, p, wq, wb⟩ = ⟨mustT L n (nextR L n (onceR L n r.adv wq) 3) kDot, { p with quota := numB (nextS L (onceR L n r.adv wq) 3) }, true, wb⟩ := by
                unfold stepF armF
                dsimp only
                simp only [h1, h2, h3, h4, if_true, if_false, Bool.false_eq_true]
              rw [hst] at hS
              generalize onceR L n r.adv wq = r2 at *
              have cU := rd3 (fun A' hb' => number_gives (A := A') (hw := hw) (ex := ex) (n := n) hb' hL r2) ⟨false, [.c (.sl true 0 []), .c (.sl true 0 []), .c (.sl true 0 []), iA 0, iA 0, .c (.sl true 0 []), .c (.sl true 0 [])]⟩ [polB p k]
              generalize numB (nextS L r2 3) = u at *
              generalize nextR L n r2 3 = r3 at *
              have cD := rd3 (fun A' hb' => must_gives (A := A') (hw := hw) (ex := ex) (n := n) hb' hL.len r3 kDot) ⟨false, [.c (.sl true 0 []), .c (.sl true 0 []), .c (.sl true 0 []), iA 0, iA 0, .c (.sl true 0 []), .c (.sl true 0 [])]⟩ [polB { p with quota := u } k]
              repeat (first | refine tr_seq_k fun _ _ => ?_ | (refine tr_region ?_; simp only [go_sem, reduceCtorEq, Nat.reduceEqDiff, Nat.reduceLT, Nat.reduceLeDiff, Nat.reduceAdd, Nat.reduceMul, Nat.reduceSub, Nat.reduceBEq, ↓reduceIte]) | (refine call_givesW (cm0) ?_; (try dsimp only); (try simp only [go_sem, reduceCtorEq, Nat.reduceEqDiff, Nat.reduceLT, Nat.reduceLeDiff, Nat.reduceAdd, Nat.reduceMul, Nat.reduceSub, Nat.reduceBEq, ↓reduceIte])) | refine k_of (by assumption) ?_ | refine tr_block ?_ | (refine tr_skip ?_; try simp only [ex_seq, ex_block]))
              refine tr_cond rfl (fun ht => ?_) (fun hf => ?_)
              · cases ht
              repeat (first | refine tr_seq_k fun _ _ => ?_ | (refine tr_region ?_; simp only [go_sem, reduceCtorEq, Nat.reduceEqDiff, Nat.reduceLT, Nat.reduceLeDiff, Nat.reduceAdd, Nat.reduceMul, Nat.reduceSub, Nat.reduceBEq, ↓reduceIte]) | (refine call_givesW (cm1) ?_; (try dsimp only); (try simp only [go_sem, reduceCtorEq, Nat.reduceEqDiff, Nat.reduceLT, Nat.reduceLeDiff, Nat.reduceAdd, Nat.reduceMul, Nat.reduceSub, Nat.reduceBEq, ↓reduceIte])) | refine k_of (by assumption) ?_)
              refine tr_cond rfl (fun ht => ?_) (fun hf => ?_)
              · cases ht
              repeat (first | refine tr_seq_k fun _ _ => ?_ | (refine tr_region ?_; simp only [go_sem, reduceCtorEq, Nat.reduceEqDiff, Nat.reduceLT, Nat.reduceLeDiff, Nat.reduceAdd, Nat.reduceMul, Nat.reduceSub, Nat.reduceBEq, ↓reduceIte]) | (refine call_givesW (cm2) ?_; (try dsimp only); (try simp only [go_sem, reduceCtorEq, Nat.reduceEqDiff, Nat.reduceLT, Nat.reduceLeDiff, Nat.reduceAdd, Nat.reduceMul, Nat.reduceSub, Nat.reduceBEq, ↓reduceIte])) | refine k_of (by assumption) ?_)
              refine tr_cond rfl (fun ht => ?_) (fun hf => ?_)
              · cases ht
              repeat (first | refine tr_seq_k fun _ _ => ?_ | (refine tr_region ?_; simp only [go_sem, reduceCtorEq, Nat.reduceEqDiff, Nat.reduceLT, Nat.reduceLeDiff, Nat.reduceAdd, Nat.reduceMul, Nat.reduceSub, Nat.reduceBEq, ↓reduceIte]) | (refine call_givesW (cm3) ?_; (try dsimp only); (try simp only [go_sem, reduceCtorEq, Nat.reduceEqDiff, Nat.reduceLT, Nat.reduceLeDiff, Nat.reduceAdd, Nat.reduceMul, Nat.reduceSub, Nat.reduceBEq, ↓reduceIte])) | refine k_of (by assumption) ?_)
              refine tr_cond rfl (fun ht => ?_) (fun hf => ?_)
              rotate_left
              · cases hf
              repeat (first | refine tr_seq_k fun _ _ => ?_ | (refine tr_region ?_; simp only [go_sem, reduceCtorEq, Nat.reduceEqDiff, Nat.reduceLT, Nat.reduceLeDiff, Nat.reduceAdd, Nat.reduceMul, Nat.reduceSub, Nat.reduceBEq, ↓reduceIte]) | (refine call_givesW (cN) ?_; (try dsimp only); (try simp only [go_sem, reduceCtorEq, Nat.reduceEqDiff, Nat.reduceLT, Nat.reduceLeDiff, Nat.reduceAdd, Nat.reduceMul, Nat.reduceSub, Nat.reduceBEq, ↓reduceIte])) | (refine call_givesW (cU) ?_; (try dsimp only); (try simp only [go_sem, reduceCtorEq, Nat.reduceEqDiff, Nat.reduceLT, Nat.reduceLeDiff, Nat.reduceAdd, Nat.reduceMul, Nat.reduceSub, Nat.reduceBEq, ↓reduceIte])) | (refine call_givesW (cD) ?_; (try dsimp only); (try simp only [go_sem, reduceCtorEq, Nat.reduceEqDiff, Nat.reduceLT, Nat.reduceLeDiff, Nat.reduceAdd, Nat.reduceMul, Nat.reduceSub, Nat.reduceBEq, ↓reduceIte])) | refine k_of (by assumption) ?_)
              have hmi := must_i (L := L) (n := n) (r := r3) (s := kDot)
              exact hK (f, ⟨mustT L n r3 kDot, { p with quota := u }, true, wb⟩, k, hw) _ _ ⟨hS, fun h => (by have := (must_ok h).2; dsimp only at this ⊢; rw [this]; omega), by dsimp only; omega, ⟨hk.h1, hk.h2, hk.h3, hk.h4, hk.h5⟩, by dsimp only; omega, by dsimp only; omega, by dsimp only; omega, by dsimp only; omega, by dsimp only; omega⟩ ⟨⟨rfl, rfl, rfl, rfl, rfl, rfl, trivial⟩, Keep.refl _, rfl, by simp only [lowB, Bool.and_eq_true]; exact ⟨rfl, rfl, ksOk_low (⟨hk.h1, hk.h2, hk.h3, hk.h4, hk.h5⟩) _, trivial⟩, Nat.le_refl _, Nat.zero_le _⟩ (by dsimp only; omega)
            | false =>
              rw [h4, if_neg Bool.false_ne_true] at cm3
              cases h5 : isT L r kBudget with
              | true =>
                have hlt := (isT_lt h5).2
                rw [h5, if_pos rfl] at cm4
                have cN := rd3 (fun A' hb' => once_gives (A := A') (hw := hw) (ex := ex) (n := n) hb' hL r.adv wb (Nat.le_add_left _ _) hlt) ⟨false, [.c (.sl true 0 []), .c (.sl true 0 []), .c (.sl true 0 []), iA 0, iA 0, .c (.sl true 0 []), .c (.sl true 0 [])]⟩ [polB p k]
                have hni := once_i (L := L) (n := n) (r := r.adv) (b := wb)
                have hadv : r.adv.i = r.i + 1 := rfl
                have hni2 := next_i (L := L) (n := n) (r := onceR L n r.adv wb) (s := 3)
                have hst : stepF L n ⟨r, p, wq, wb⟩ = ⟨mustT L n (nextR L n (onceR L n r.adv wb) 3) kDot, { p with budget := numB (nextS L (onceR L n r.adv wb) 3) }, wq, true⟩ := by
                  unfold stepF armF
                  dsimp only
                  simp only [h1, h2, h3, h4, h5, if_true, if_false, Bool.false_eq_true]
                rw [hst] at hS
                generalize onceR L n r.adv wb = r2 at *
                have cU := rd3 (fun A' hb' => number_gives (A := A') (hw := hw) (ex := ex) (n := n) hb' hL r2) ⟨false, [.c (.sl true 0 []), .c (.sl true 0 []), .c (.sl true 0 []), iA 0, iA 0, .c (.sl true 0 []), .c (.sl true 0 [])]⟩ [polB p k]
                generalize numB (nextS L r2 3) = u at *
                generalize nextR L n r2 3 = r3 at *
                have cD := rd3 (fun A' hb' => must_gives (A := A') (hw := hw) (ex := ex) (n := n) hb' hL.len r3 kDot) ⟨false, [.c (.sl true 0 []), .c (.sl true 0 []), .c (.sl true 0 []), iA 0, iA 0, .c (.sl true 0 []), .c (.sl true 0 [])]⟩ [polB { p with budget := u } k]
                repeat (first | refine tr_seq_k fun _ _ => ?_ | (refine tr_region ?_; simp only [go_sem, reduceCtorEq, Nat.reduceEqDiff, Nat.reduceLT, Nat.reduceLeDiff, Nat.reduceAdd, Nat.reduceMul, Nat.reduceSub, Nat.reduceBEq, ↓reduceIte]) | (refine call_givesW (cm0) ?_; (try dsimp only); (try simp only [go_sem, reduceCtorEq, Nat.reduceEqDiff, Nat.reduceLT, Nat.reduceLeDiff, Nat.reduceAdd, Nat.reduceMul, Nat.reduceSub, Nat.reduceBEq, ↓reduceIte])) | refine k_of (by assumption) ?_ | refine tr_block ?_ | (refine tr_skip ?_; try simp only [ex_seq, ex_block]))
                refine tr_cond rfl (fun ht => ?_) (fun hf => ?_)
                · cases ht
                repeat (first | refine tr_seq_k fun _ _ => ?_ | (refine tr_region ?_; simp only [go_sem, reduceCtorEq, Nat.reduceEqDiff, Nat.reduceLT, Nat.reduceLeDiff, Nat.reduceAdd, Nat.reduceMul, Nat.reduceSub, Nat.reduceBEq, ↓reduceIte]) | (refine call_givesW (cm1) ?_; (try dsimp only); (try simp only [go_sem, reduceCtorEq, Nat.reduceEqDiff, Nat.reduceLT, Nat.reduceLeDiff, Nat.reduceAdd, Nat.reduceMul, Nat.reduceSub, Nat.reduceBEq, ↓reduceIte])) | refine k_of (by assumption) ?_)
                refine tr_cond rfl (fun ht => ?_) (fun hf => ?_)
                · cases ht
                repeat (first | refine tr_seq_k fun _ _ => ?_ | (refine tr_region ?_; simp only [go_sem, reduceCtorEq, Nat.reduceEqDiff, Nat.reduceLT, Nat.reduceLeDiff, Nat.reduceAdd, Nat.reduceMul, Nat.reduceSub, Nat.reduceBEq, ↓reduceIte]) | (refine call_givesW (cm2) ?_; (try dsimp only); (try simp only [go_sem, reduceCtorEq, Nat.reduceEqDiff, Nat.reduceLT, Nat.reduceLeDiff, Nat.reduceAdd, Nat.reduceMul, Nat.reduceSub, Nat.reduceBEq, ↓reduceIte])) | refine k_of (by assumption) ?_)
                refine tr_cond rfl (fun ht => ?_) (fun hf => ?_)
                · cases ht
                repeat (first | refine tr_seq_k fun _ _ => ?_ | (refine tr_region ?_; simp only [go_sem, reduceCtorEq, Nat.reduceEqDiff, Nat.reduceLT, Nat.reduceLeDiff, Nat.reduceAdd, Nat.reduceMul, Nat.reduceSub, Nat.reduceBEq, ↓reduceIte]) | (refine call_givesW (cm3) ?_; (try dsimp only); (try simp only [go_sem, reduceCtorEq, Nat.reduceEqDiff, Nat.reduceLT, Nat.reduceLeDiff, Nat.reduceAdd, Nat.reduceMul, Nat.reduceSub, Nat.reduceBEq, ↓reduceIte])) | refine k_of (by assumption) ?_)
                refine tr_cond rfl (fun ht => ?_) (fun hf => ?_)
                · cases ht
                repeat (first | refine tr_seq_k fun _ _ => ?_ | (refine tr_region ?_; simp only [go_sem, reduceCtorEq, Nat.reduceEqDiff, Nat.reduceLT, Nat.reduceLeDiff, Nat.reduceAdd, Nat.reduceMul, Nat.reduceSub, Nat.reduceBEq, ↓reduceIte]) | (refine call_givesW (cm4) ?_; (try dsimp only); (try simp only [go_sem, reduceCtorEq, Nat.reduceEqDiff, Nat.reduceLT, Nat.reduceLeDiff, Nat.reduceAdd, Nat.reduceMul, Nat.reduceSub, Nat.reduceBEq, ↓reduceIte])) | refine k_of (by assumption) ?_)
                refine tr_cond rfl (fun ht => ?_) (fun hf => ?_)
                rotate_left
                · cases hf
                repeat (first | refine tr_seq_k fun _ _ => ?_ | (refine tr_region ?_; simp only [go_sem, reduceCtorEq, Nat.reduceEqDiff, Nat.reduceLT, Nat.reduceLeDiff, Nat.reduceAdd, Nat.reduceMul, Nat.reduceSub, Nat.reduceBEq, ↓reduceIte]) | (refine call_givesW (cN) ?_; (try dsimp only); (try simp only [go_sem, reduceCtorEq, Nat.reduceEqDiff, Nat.reduceLT, Nat.reduceLeDiff, Nat.reduceAdd, Nat.reduceMul, Nat.reduceSub, Nat.reduceBEq, ↓reduceIte])) | (refine call_givesW (cU) ?_; (try dsimp only); (try simp only [go_sem, reduceCtorEq, Nat.reduceEqDiff, Nat.reduceLT, Nat.reduceLeDiff, Nat.reduceAdd, Nat.reduceMul, Nat.reduceSub, Nat.reduceBEq, ↓reduceIte])) | (refine call_givesW (cD) ?_; (try dsimp only); (try simp only [go_sem, reduceCtorEq, Nat.reduceEqDiff, Nat.reduceLT, Nat.reduceLeDiff, Nat.reduceAdd, Nat.reduceMul, Nat.reduceSub, Nat.reduceBEq, ↓reduceIte])) | refine k_of (by assumption) ?_)
                have hmi := must_i (L := L) (n := n) (r := r3) (s := kDot)
                exact hK (f, ⟨mustT L n r3 kDot, { p with budget := u }, wq, true⟩, k, hw) _ _ ⟨hS, fun h => (by have := (must_ok h).2; dsimp only at this ⊢; rw [this]; omega), by dsimp only; omega, ⟨hk.h1, hk.h2, hk.h3, hk.h4, hk.h5⟩, by dsimp only; omega, by dsimp only; omega, by dsimp only; omega, by dsimp only; omega, by dsimp only; omega⟩ ⟨⟨rfl, rfl, rfl, rfl, rfl, rfl, trivial⟩, Keep.refl _, rfl, by simp only [lowB, Bool.and_eq_true]; exact ⟨rfl, rfl, ksOk_low (⟨hk.h1, hk.h2, hk.h3, hk.h4, hk.h5⟩) _, trivial⟩, Nat.le_refl _, Nat.zero_le _⟩ (by dsimp only; omega)
              | false =>
                rw [h5, if_neg Bool.false_ne_true] at cm4
                obtain ⟨k2, hw2, hk2, hle, cN⟩ := says_gives (z := ⟨false, [.c (.sl true 0 []), .c (.sl true 0 []), .c (.sl true 0 []), iA 0, iA 0, .c (.sl true 0 []), .c (.sl true 0 [])]⟩) (ex := ex) (n := n) hk hL r hi (by omega) (by omega)
                have hni := says_i (L := L) (n := n) (r := r) (p := p)
                obtain ⟨l1, l2, l3, l4, l5⟩ := says_len (L := L) (n := n) (r := r) (p := p)
                have hst : stepF L n ⟨r, p, wq, wb⟩ = ⟨mustT L n (saysF L n r p).1 kDot, (saysF L n r p).2, wq, wb⟩ := by
                  unfold stepF armF
                  dsimp only
                  simp only [h1, h2, h3, h4, h5, if_true, if_false, Bool.false_eq_true]
                rw [hst] at hS
                generalize saysF L n r p = q at *
                obtain ⟨r2, p2⟩ := q
                dsimp only at *
                have cD := rd3 (fun A' hb' => must_gives (A := A') (hw := hw2) (ex := ex) (n := n) hb' hL.len r2 kDot) ⟨false, [.c (.sl true 0 []), .c (.sl true 0 []), .c (.sl true 0 []), iA 0, iA 0, .c (.sl true 0 []), .c (.sl true 0 [])]⟩ [polB p2 k2]
                repeat (first | refine tr_seq_k fun _ _ => ?_ | (refine tr_region ?_; simp only [go_sem, reduceCtorEq, Nat.reduceEqDiff, Nat.reduceLT, Nat.reduceLeDiff, Nat.reduceAdd, Nat.reduceMul, Nat.reduceSub, Nat.reduceBEq, ↓reduceIte]) | (refine call_givesW (cm0) ?_; (try dsimp only); (try simp only [go_sem, reduceCtorEq, Nat.reduceEqDiff, Nat.reduceLT, Nat.reduceLeDiff, Nat.reduceAdd, Nat.reduceMul, Nat.reduceSub, Nat.reduceBEq, ↓reduceIte])) | refine k_of (by assumption) ?_ | refine tr_block ?_ | (refine tr_skip ?_; try simp only [ex_seq, ex_block]))
                refine tr_cond rfl (fun ht => ?_) (fun hf => ?_)
                · cases ht
                repeat (first | refine tr_seq_k fun _ _ => ?_ | (refine tr_region ?_; simp only [go_sem, reduceCtorEq, Nat.reduceEqDiff, Nat.reduceLT, Nat.reduceLeDiff, Nat.reduceAdd, Nat.reduceMul, Nat.reduceSub, Nat.reduceBEq, ↓reduceIte]) | (refine call_givesW (cm1) ?_; (try dsimp only); (try simp only [go_sem, reduceCtorEq, Nat.reduceEqDiff, Nat.reduceLT, Nat.reduceLeDiff, Nat.reduceAdd, Nat.reduceMul, Nat.reduceSub, Nat.reduceBEq, ↓reduceIte])) | refine k_of (by assumption) ?_)
                refine tr_cond rfl (fun ht => ?_) (fun hf => ?_)
                · cases ht
                repeat (first | refine tr_seq_k fun _ _ => ?_ | (refine tr_region ?_; simp only [go_sem, reduceCtorEq, Nat.reduceEqDiff, Nat.reduceLT, Nat.reduceLeDiff, Nat.reduceAdd, Nat.reduceMul, Nat.reduceSub, Nat.reduceBEq, ↓reduceIte]) | (refine call_givesW (cm2) ?_; (try dsimp only); (try simp only [go_sem, reduceCtorEq, Nat.reduceEqDiff, Nat.reduceLT, Nat.reduceLeDiff, Nat.reduceAdd, Nat.reduceMul, Nat.reduceSub, Nat.reduceBEq, ↓reduceIte])) | refine k_of (by assumption) ?_)
                refine tr_cond rfl (fun ht => ?_) (fun hf => ?_)
                · cases ht
                repeat (first | refine tr_seq_k fun _ _ => ?_ | (refine tr_region ?_; simp only [go_sem, reduceCtorEq, Nat.reduceEqDiff, Nat.reduceLT, Nat.reduceLeDiff, Nat.reduceAdd, Nat.reduceMul, Nat.reduceSub, Nat.reduceBEq, ↓reduceIte]) | (refine call_givesW (cm3) ?_; (try dsimp only); (try simp only [go_sem, reduceCtorEq, Nat.reduceEqDiff, Nat.reduceLT, Nat.reduceLeDiff, Nat.reduceAdd, Nat.reduceMul, Nat.reduceSub, Nat.reduceBEq, ↓reduceIte])) | refine k_of (by assumption) ?_)
                refine tr_cond rfl (fun ht => ?_) (fun hf => ?_)
                · cases ht
                repeat (first | refine tr_seq_k fun _ _ => ?_ | (refine tr_region ?_; simp only [go_sem, reduceCtorEq, Nat.reduceEqDiff, Nat.reduceLT, Nat.reduceLeDiff, Nat.reduceAdd, Nat.reduceMul, Nat.reduceSub, Nat.reduceBEq, ↓reduceIte]) | (refine call_givesW (cm4) ?_; (try dsimp only); (try simp only [go_sem, reduceCtorEq, Nat.reduceEqDiff, Nat.reduceLT, Nat.reduceLeDiff, Nat.reduceAdd, Nat.reduceMul, Nat.reduceSub, Nat.reduceBEq, ↓reduceIte])) | refine k_of (by assumption) ?_)
                refine tr_cond rfl (fun ht => ?_) (fun hf => ?_)
                · cases ht
                repeat (first | (refine tr_region ?_; simp only [go_sem, reduceCtorEq, Nat.reduceEqDiff, Nat.reduceLT, Nat.reduceLeDiff, Nat.reduceAdd, Nat.reduceMul, Nat.reduceSub, Nat.reduceBEq, ↓reduceIte]) | (refine call_givesW (cN) ?_; (try dsimp only); (try simp only [go_sem, reduceCtorEq, Nat.reduceEqDiff, Nat.reduceLT, Nat.reduceLeDiff, Nat.reduceAdd, Nat.reduceMul, Nat.reduceSub, Nat.reduceBEq, ↓reduceIte])) | (refine call_givesW (cD) ?_; (try dsimp only); (try simp only [go_sem, reduceCtorEq, Nat.reduceEqDiff, Nat.reduceLT, Nat.reduceLeDiff, Nat.reduceAdd, Nat.reduceMul, Nat.reduceSub, Nat.reduceBEq, ↓reduceIte])) | refine k_of (by assumption) ?_)
                have hmi := must_i (L := L) (n := n) (r := r2) (s := kDot)
                exact hK (f, ⟨mustT L n r2 kDot, p2, wq, wb⟩, k2, hw2) _ _ ⟨hS, fun h => (by have := (must_ok h).2; dsimp only at this ⊢; rw [this]; omega), by dsimp only; omega, hk2, by rw [l1]; omega, by rw [l2]; omega, by rw [l3]; omega, by dsimp only; omega, by dsimp only; omega⟩ ⟨⟨rfl, rfl, rfl, rfl, rfl, rfl, trivial⟩, Keep.refl _, rfl, by simp only [lowB, Bool.and_eq_true]; exact ⟨rfl, rfl, ksOk_low (hk2) _, trivial⟩, Nat.le_refl _, Nat.zero_le _⟩ (by dsimp only; omega)
end Go.Proofs.Ytinbfakpjnnagaa
namespace Go.Proofs.Ytinbfakpjnnagaa
open Go.RowKit Go.Vs Go.Vs.Ab
set_option maxRecDepth 100000
set_option maxHeartbeats 4000000
end Go.Proofs.Ytinbfakpjnnagaa
namespace Go.Vs
open Go.Vs.Ab
def Stop (b : List UInt8) : Prop := ∀ c r, b = c :: r → varB c = false
inductive Lex : List UInt8 → List (List UInt8) → Prop
  | nil {b : List UInt8} (h : b.drop (skipC false b) = []) : Lex b []
  | cons {b : List UInt8} {c : UInt8} {t rest : List UInt8} {ts : List (List UInt8)} (h : b.drop (skipC false b) = c :: (t ++ rest))
      (ht : (kindOf c = 3 ∧ t = []) ∨ (kindOf c ≠ 3 ∧ kindOf c ≠ 0 ∧ runL (kindOf c) (c :: (t ++ rest)) = t.length + 1 ∧ t.length + 1 ≤ 255)) (hr : Lex rest ts) : Lex b ((c :: t) :: ts)
theorem toksF_step (s : ByteArray) (f i : Nat) (out : List Tk) : toksF s (f + 1) i out = if i < s.size then
      if (tokAt s i).2 ≠ 0 then (out, (i : Int), (tokAt s i).2)
      else toksF s f (skipAt s (i + (tokAt s i).1.text.size)) (out ++ [(tokAt s i).1])
    else (out, 0, 0) := rfl
theorem lex_toks {b : List UInt8} {ts : List (List UInt8)} (h : Lex b ts) : ∀ (s : ByteArray) (j : Nat), j ≤ s.size → (lts s).drop j = b → ∀ (f : Nat) (out : List Tk), s.size - skipAt s j < f → ∃ l, toksF s f (skipAt s j) out = (out ++ l, 0, 0) ∧ l.map (fun t => lts t.text) = ts := by
  induction h with
  | @nil b h =>
    intro s j hj hd f out hf
    obtain ⟨f, rfl⟩ : ∃ f', f = f' + 1 := ⟨f - 1, by omega⟩
    have hd2 : (lts s).drop (skipAt s j) = [] := by
      unfold skipAt
      rw [hd, ← List.drop_drop, hd]
      exact h
    have hge : s.size ≤ skipAt s j := by
      have := List.drop_eq_nil_iff.1 hd2
      rwa [lts_len] at this
    refine ⟨[], ?_, rfl⟩
    rw [toksF_step, if_neg (by omega), List.append_nil]
  | @cons b c t rest ts h ht _ ih =>
    intro s j hj hd f out hf
    obtain ⟨f, rfl⟩ : ∃ f', f = f' + 1 := ⟨f - 1, by omega⟩
    have hd2 : (lts s).drop (skipAt s j) = c :: (t ++ rest) := by
      unfold skipAt
      rw [hd, ← List.drop_drop, hd]
      exact h
    have hlt : skipAt s j < (lts s).length := by
      rcases Nat.lt_or_ge (skipAt s j) (lts s).length with h1 | h1
      · exact h1
      · rw [List.drop_eq_nil_of_le h1] at hd2
        cases hd2
    have hsz := lts_len s
    have hc : (lts s)[skipAt s j] = c := by
      have := drop_cons hlt
      rw [hd2] at this
      injection this with h1 _
      exact h1.symm
    have hlen : (lts s).length - skipAt s j = t.length + 1 + rest.length := by
      have := congrArg List.length hd2
      rw [List.length_drop, List.length_cons, List.length_append] at this
      omega
    have key : ∃ k : Int, tokAt s (skipAt s j) = (⟨k, s.extract (skipAt s j) (skipAt s j + (t.length + 1)), ((skipAt s j : Nat) : Int)⟩, 0) := by
      have hT := tokAt_of hlt
      rw [hc] at hT
      rcases ht with ⟨h3, rfl⟩ | ⟨h3, h0, hr, hl⟩
      · rw [if_pos h3] at hT
        exact ⟨3, hT⟩
      · have hrun : runAt (kindOf c) s (skipAt s j) = skipAt s j + (t.length + 1) := by
          unfold runAt
          rw [hd2, hr]
        rw [if_neg h3, if_neg h0, hrun, if_neg (by omega)] at hT
        exact ⟨_, hT⟩
    obtain ⟨k, hT⟩ := key
    have hsize : (s.extract (skipAt s j) (skipAt s j + (t.length + 1))).size = t.length + 1 := by
      rw [ext_size (by omega) (by omega)]
      omega
    have htext : lts (s.extract (skipAt s j) (skipAt s j + (t.length + 1))) = c :: t := by
      rw [lts_ext, hd2, Nat.add_sub_cancel_left]
      show c :: (t ++ rest).take t.length = c :: t
      rw [List.take_left]
    have hd3 : (lts s).drop (skipAt s j + (t.length + 1)) = rest := by
      rw [← List.drop_drop, hd2]
      show (t ++ rest).drop t.length = rest
      exact List.drop_left
    have hge := skipAt_ge s (skipAt s j + (t.length + 1))
    obtain ⟨l, h1, h2⟩ := ih s (skipAt s j + (t.length + 1)) (by omega) hd3 f (out ++ [⟨k, s.extract (skipAt s j) (skipAt s j + (t.length + 1)), ((skipAt s j : Nat) : Int)⟩]) (by omega)
    refine ⟨⟨k, s.extract (skipAt s j) (skipAt s j + (t.length + 1)), ((skipAt s j : Nat) : Int)⟩ :: l, ?_, ?_⟩
    · rw [toksF_step, if_pos (by omega), hT, if_neg (fun h => h rfl)]
      dsimp only
      rw [hsize, h1, List.append_assoc]
      rfl
    · rw [List.map_cons, h2]
      dsimp only
      rw [htext]
theorem lex_all {s : ByteArray} {ts : List (List UInt8)} (h : Lex (lts s) ts) (hz : s.size ≤ 65536) : (toksAll s).2.2 = 0 ∧ (toksAll s).1.map (fun t => lts t.text) = ts := by
  obtain ⟨l, h1, h2⟩ := lex_toks h s 0 (Nat.zero_le _) rfl (s.size + 1) [] (by omega)
  have ht : toks s = (l, 0, 0) := by
    unfold toks
    rw [if_neg (by omega), h1]
    rfl
  unfold toksAll
  rw [ht, if_neg (fun h => h rfl)]
  exact ⟨rfl, h2⟩
/-! ### bytes -/
theorem lower_low {c : UInt8} (h : (lowerB c || digB c) = true) : kindOf c = 1 ∧ blankB c = false ∧ ((c.toNat : Int) = 37) = False := by
  have hc : (97 ≤ c.toNat ∧ c.toNat ≤ 122) ∨ (48 ≤ c.toNat ∧ c.toNat ≤ 57) := by
    simpa [lowerB, digB] using h
  have h1 : signB c = false := by
    rw [Bool.eq_false_iff]
    intro hs
    simp only [signB, List.any_eq_true, decide_eq_true_eq] at hs
    obtain ⟨x, hx, he⟩ := hs
    have : x.toNat < 64 ∧ (x.toNat < 48 ∨ 57 < x.toNat) := by
      simp only [List.mem_cons, List.not_mem_nil, or_false] at hx
      rcases hx with rfl | rfl | rfl | rfl | rfl | rfl | rfl <;> decide
    omega
  have h2 : upperB c = false := by
    rw [Bool.eq_false_iff]
    intro hs
    simp only [upperB, Bool.and_eq_true, decide_eq_true_eq] at hs
    omega
  refine ⟨?_, ?_, eq_false (by omega)⟩
  · unfold kindOf
    rw [if_neg (by rw [h1]; exact Bool.false_ne_true), if_neg (by rw [h2]; exact Bool.false_ne_true), if_pos h]
  · rw [Bool.eq_false_iff]
    intro hs
    simp only [blankB, List.any_eq_true, decide_eq_true_eq] at hs
    obtain ⟨x, hx, he⟩ := hs
    have : x.toNat < 48 := by
      simp only [List.mem_cons, List.not_mem_nil, or_false] at hx
      rcases hx with rfl | rfl | rfl | rfl <;> decide
    omega
theorem upper_up {c : UInt8} (h : upperB c = true) : kindOf c = 2 ∧ blankB c = false ∧ ((c.toNat : Int) = 37) = False := by
  have hc : 65 ≤ c.toNat ∧ c.toNat ≤ 90 := by
    simpa [upperB] using h
  have h1 : signB c = false := by
    rw [Bool.eq_false_iff]
    intro hs
    simp only [signB, List.any_eq_true, decide_eq_true_eq] at hs
    obtain ⟨x, hx, he⟩ := hs
    have : x.toNat < 65 := by
      simp only [List.mem_cons, List.not_mem_nil, or_false] at hx
      rcases hx with rfl | rfl | rfl | rfl | rfl | rfl | rfl <;> decide
    omega
  refine ⟨?_, ?_, eq_false (by omega)⟩
  · unfold kindOf
    rw [if_neg (by rw [h1]; exact Bool.false_ne_true), if_pos h]
  · rw [Bool.eq_false_iff]
    intro hs
    simp only [blankB, List.any_eq_true, decide_eq_true_eq] at hs
    obtain ⟨x, hx, he⟩ := hs
    have : x.toNat < 48 := by
      simp only [List.mem_cons, List.not_mem_nil, or_false] at hx
      rcases hx with rfl | rfl | rfl | rfl <;> decide
    omega
theorem more1 (c : UInt8) : moreB 1 c = constB c := by
  unfold moreB constB
  rw [show decide ((1 : Int) = 2) = false from rfl, Bool.false_and, Bool.or_false]
theorem more2 (c : UInt8) : moreB 2 c = varB c := by
  unfold moreB varB
  rw [show decide ((2 : Int) = 2) = true from rfl, Bool.true_and]
  cases lowerB c <;> cases upperB c <;> cases digB c <;> cases underB c <;> rfl
theorem const_var {c : UInt8} (h : varB c = false) : constB c = false := by
  unfold varB at h
  unfold constB
  revert h
  cases lowerB c <;> cases upperB c <;> cases digB c <;> cases underB c <;> decide
theorem run_word {k : Int} : ∀ {w b : List UInt8}, (∀ c ∈ w, moreB k c = true) → (∀ c r, b = c :: r → moreB k c = false) → runL k (w ++ b) = w.length
  | [], [], _, _ => rfl
  | [], c :: r, _, hb => by
    unfold runL
    rw [List.nil_append, List.takeWhile_cons, if_neg (by rw [hb c r rfl]; exact Bool.false_ne_true)]
  | c :: w, b, hw, hb => by
    have ih := run_word (w := w) (fun x hx => hw x (by simp [hx])) hb
    unfold runL at *
    rw [List.cons_append, List.takeWhile_cons, if_pos (hw c (by simp)), List.length_cons, ih, List.length_cons]
/-! ### how texts are put together -/
theorem lex_blank {c : UInt8} {b : List UInt8} {ts : List (List UInt8)} (hc : blankB c = true) (h : Lex b ts) : Lex (c :: b) ts := by
  have e : (c :: b).drop (skipC false (c :: b)) = b.drop (skipC false b) := by
    rw [skipC, if_pos hc, Nat.add_comm]
    rfl
  cases h with
  | nil h => exact .nil (e.trans h)
  | cons h ht hr => exact .cons (e.trans h) ht hr
theorem skip0 {c : UInt8} {b : List UInt8} (hb : blankB c = false) (hp : ((c.toNat : Int) = 37) = False) : (c :: b).drop (skipC false (c :: b)) = c :: b := by
  rw [skipC, if_neg (by rw [hb]; exact Bool.false_ne_true), if_neg (by rw [hp]; exact id)]
  rfl
theorem lex_sign {c : UInt8} {b : List UInt8} {ts : List (List UInt8)} (hs : signB c = true) (hb : blankB c = false) (hp : ((c.toNat : Int) = 37) = False) (h : Lex b ts) : Lex (c :: b) ([c] :: ts) :=
  .cons (t := []) (skip0 hb hp) (Or.inl ⟨by unfold kindOf; rw [if_pos hs], rfl⟩) h
theorem lex_word {c : UInt8} {w b : List UInt8} {ts : List (List UInt8)} (hc : (lowerB c || digB c) = true) (hw : ∀ x ∈ w, constB x = true) (hl : w.length + 1 ≤ 255) (hs : Stop b) (h : Lex b ts) : Lex (c :: (w ++ b)) ((c :: w) :: ts) := by
  obtain ⟨h1, h2, h3⟩ := lower_low hc
  refine .cons (skip0 h2 h3) (Or.inr ⟨by rw [h1]; decide, by rw [h1]; decide, ?_, hl⟩) h
  rw [h1]
  have hcc : moreB 1 c = true := by
    rw [more1]; unfold constB; rw [hc]; rfl
  exact run_word (w := c :: w) (fun x hx => by
    rcases List.mem_cons.1 hx with rfl | hx
    · exact hcc
    · rw [more1]; exact hw x hx) (fun x r hx => by rw [more1]; exact const_var (hs x r hx))
theorem lex_var {c : UInt8} {w b : List UInt8} {ts : List (List UInt8)} (hc : upperB c = true) (hw : ∀ x ∈ w, varB x = true) (hl : w.length + 1 ≤ 255) (hs : Stop b) (h : Lex b ts) : Lex (c :: (w ++ b)) ((c :: w) :: ts) := by
  obtain ⟨h1, h2, h3⟩ := upper_up hc
  refine .cons (skip0 h2 h3) (Or.inr ⟨by rw [h1]; decide, by rw [h1]; decide, ?_, hl⟩) h
  rw [h1]
  have hcc : moreB 2 c = true := by
    rw [more2]; unfold varB; rw [hc]; cases lowerB c <;> rfl
  exact run_word (w := c :: w) (fun x hx => by
    rcases List.mem_cons.1 hx with rfl | hx
    · exact hcc
    · rw [more2]; exact hw x hx) (fun x r hx => by rw [more2]; exact hs x r hx)
def LS (x : ByteArray) (tx : List ByteArray) : Prop := ∀ b ts, Lex b ts → Lex (lts x ++ b) (tx.map lts ++ ts)
def LX (x : ByteArray) (tx : List ByteArray) : Prop := ∀ b ts, Stop b → Lex b ts → Lex (lts x ++ b) (tx.map lts ++ ts)
def SH (y : ByteArray) : Prop := ∃ c r, lts y = c :: r ∧ varB c = false
theorem SH.stop {y : ByteArray} (h : SH y) (b : List UInt8) : Stop (lts y ++ b) := fun c r e => by
  obtain ⟨d, q, h1, h2⟩ := h
  rw [h1] at e
  injection e with e _
  subst e
  exact h2
theorem SH.app {y : ByteArray} (h : SH y) (z : ByteArray) : SH (y ++ z) := by
  obtain ⟨d, q, h1, h2⟩ := h
  exact ⟨d, q ++ lts z, by rw [lts_app, h1]; rfl, h2⟩
theorem LS.nil : LS ⟨#[]⟩ [] := fun b ts h => h
theorem LS.app {x y : ByteArray} {tx ty : List ByteArray} (h : LS x tx) (k : LS y ty) : LS (x ++ y) (tx ++ ty) := fun b ts hb => by
  rw [lts_app, List.map_append, List.append_assoc, List.append_assoc]
  exact h _ _ (k b ts hb)
theorem LS.appX {x y : ByteArray} {tx ty : List ByteArray} (h : LS x tx) (k : LX y ty) : LX (x ++ y) (tx ++ ty) := fun b ts hs hb => by
  rw [lts_app, List.map_append, List.append_assoc, List.append_assoc]
  exact h _ _ (k b ts hs hb)
theorem LS.x {x : ByteArray} {tx : List ByteArray} (h : LS x tx) : LX x tx := fun b ts _ hb => h b ts hb
theorem LX.app {x y : ByteArray} {tx ty : List ByteArray} (h : LX x tx) (hy : SH y) (k : LS y ty) : LS (x ++ y) (tx ++ ty) := fun b ts hb => by
  rw [lts_app, List.map_append, List.append_assoc, List.append_assoc]
  exact h _ _ (hy.stop b) (k b ts hb)
theorem LX.appX {x y : ByteArray} {tx ty : List ByteArray} (h : LX x tx) (hy : y.size = 0 ∨ SH y) (k : LX y ty) : LX (x ++ y) (tx ++ ty) := fun b ts hs hb => by
  rw [lts_app, List.map_append, List.append_assoc, List.append_assoc]
  refine h _ _ ?_ (k b ts hs hb)
  rcases hy with hy | hy
  · have : lts y = [] := List.eq_nil_of_length_eq_zero (by rw [lts_len]; exact hy)
    rw [this]
    exact hs
  · exact hy.stop b
theorem LS.blank {c : UInt8} (hc : blankB c = true) : LS ⟨#[c]⟩ [] := fun b ts h => lex_blank hc h
theorem LS.sign {c : UInt8} (hs : signB c = true) (hb : blankB c = false) (hp : ((c.toNat : Int) = 37) = False) : LS ⟨#[c]⟩ [⟨#[c]⟩] := fun b ts h => lex_sign hs hb hp h
theorem lts_cons {x : ByteArray} (h : 0 < x.size) : ∃ c r, lts x = c :: r ∧ r.length + 1 = x.size ∧ ∀ p : UInt8 → Bool, headB p x = p c := by
  cases hl : lts x with
  | nil =>
    have := lts_len x
    rw [hl] at this
    simp at this
    omega
  | cons c r =>
    refine ⟨c, r, rfl, ?_, fun p => ?_⟩
    · have := lts_len x
      rw [hl] at this
      exact this
    · unfold headB
      rw [hl]
      rfl
theorem LX.const {x : ByteArray} (h : pconst0 x = true) (hh : headB (fun c => lowerB c || digB c) x = true) : LX x [x] := fun b ts hs hb => by
  obtain ⟨c, r, hl, hn, hp⟩ := lts_cons (headB_pos hh)
  rw [hp] at hh
  unfold pconst0 at h
  simp only [Bool.and_eq_true, decide_eq_true_eq, List.all_eq_true, hl] at h
  rw [show [x].map lts = [c :: r] by rw [List.map_singleton, hl], hl]
  exact lex_word hh (fun y hy => h.2 y (by simp [hy])) (by omega) hs hb
theorem pconstant_head {x : ByteArray} (h : pconst0 x = true) : headB (fun c => lowerB c || digB c) x = true := by
  unfold pconst0 at h
  simp only [Bool.and_eq_true, decide_eq_true_eq, List.all_eq_true] at h
  obtain ⟨c, r, hl, hn, hp⟩ := lts_cons (headB_pos h.1.2)
  have h1 := h.1.2
  rw [hp] at h1 ⊢
  have h2 := h.2 c (by rw [hl]; simp)
  unfold constB at h2
  revert h1 h2
  cases lowerB c <;> cases digB c <;> cases underB c <;> decide
theorem LX.pconst {x : ByteArray} (h : pconstant x = true) : LX x [x] := by
  unfold pconstant at h
  rw [Bool.and_eq_true] at h
  exact LX.const h.1 (pconstant_head h.1)
theorem LX.prin {x : ByteArray} (h : pprincipal x = true) : LX x [x] := by
  unfold pprincipal at h
  rw [Bool.and_eq_true] at h
  exact LX.pconst h.1
theorem LX.pvar {x : ByteArray} (h : pvariable x = true) : LX x [x] := fun b ts hs hb => by
  unfold pvariable at h
  simp only [Bool.and_eq_true, decide_eq_true_eq, List.all_eq_true] at h
  obtain ⟨c, r, hl, hn, hp⟩ := lts_cons (headB_pos h.1.2)
  have h1 := h.1.2
  rw [hp] at h1
  rw [show [x].map lts = [c :: r] by rw [List.map_singleton, hl], hl]
  exact lex_var h1 (fun y hy => h.2 y (by rw [hl]; simp [hy])) (by omega) hs hb
theorem LX.term {t : Tm} (h : ptermok t = true) : LX t.name [t.name] := by
  unfold ptermok at h
  split at h
  · exact LX.pvar h
  · exact LX.pconst h
theorem LS.toks {x : ByteArray} {tx : List ByteArray} (h : LS x tx) (hz : x.size ≤ 65536) : (toksAll x).2.2 = 0 ∧ (toksAll x).1.map Tk.text = tx := by
  have h1 := h [] [] (.nil rfl)
  rw [List.append_nil, List.append_nil] at h1
  obtain ⟨h2, h3⟩ := lex_all h1 hz
  refine ⟨h2, ?_⟩
  have inj : ∀ (l : List Tk) (t : List ByteArray), l.map (fun t => lts t.text) = t.map lts → l.map Tk.text = t := fun l => by
    induction l with
    | nil => intro t h; cases t with | nil => rfl | cons => cases h
    | cons a l ih =>
      intro t h
      cases t with
      | nil => cases h
      | cons b t =>
        simp only [List.map_cons] at h ⊢
        injection h with h4 h5
        rw [ih t h5, lts_inj h4]
  exact inj _ _ h3
end Go.Vs
namespace Go.Vs
open Go.Vs.Ab
variable {L : List Tk} {n : Int} {r : Rs} {t : ByteArray} {ts rest : List ByteArray}
def Rem (L : List Tk) (r : Rs) (ts : List ByteArray) : Prop := r.e = 0 ∧ (L.drop r.i).map Tk.text = ts
theorem Rem.get (h : Rem L r (t :: ts)) : ∃ k, L[r.i]? = some k ∧ k.text = t ∧ r.i < L.length := by
  obtain ⟨_, h⟩ := h
  rcases Nat.lt_or_ge r.i L.length with hl | hl
  · rw [List.drop_eq_getElem_cons hl, List.map_cons] at h
    injection h with h1 _
    exact ⟨_, List.getElem?_eq_getElem hl, h1, hl⟩
  · rw [List.drop_eq_nil_of_le hl] at h
    cases h
theorem Rem.adv (h : Rem L r (t :: ts)) : Rem L r.adv ts := by
  obtain ⟨k, h1, h2, hl⟩ := h.get
  obtain ⟨he, h⟩ := h
  refine ⟨he, ?_⟩
  rw [List.drop_eq_getElem_cons hl, List.map_cons] at h
  injection h with _ h
theorem Rem.is (h : Rem L r (t :: ts)) (s : ByteArray) : isT L r s = decide (t = s) := by
  obtain ⟨k, h1, h2, hl⟩ := h.get
  unfold isT
  rw [h1, decide_eq_true h.1]
  dsimp only
  rw [h2, Bool.true_and]
theorem Rem.is0 (h : Rem L r []) (s : ByteArray) : isT L r s = false := by
  have hl : L.length ≤ r.i := by
    have := List.map_eq_nil_iff.1 h.2
    exact List.drop_eq_nil_iff.1 this
  unfold isT
  rw [List.getElem?_eq_none hl, Bool.and_false]
theorem Rem.not (h : Rem L r ts) {s : ByteArray} (hs : ∀ x q, ts = x :: q → x ≠ s) : isT L r s = false := by
  cases ts with
  | nil => exact h.is0 s
  | cons x q =>
    rw [h.is s]
    exact decide_eq_false (hs x q rfl)
theorem Rem.must (h : Rem L r (t :: ts)) : Rem L (mustT L n r t) ts := by
  unfold mustT
  rw [h.is t, decide_eq_true rfl, if_pos rfl]
  exact h.adv
theorem Rem.next {sort : Int} (h : Rem L r (t :: ts)) (hm : mayT sort t = true) : nextS L r sort = t ∧ Rem L (nextR L n r sort) ts := by
  obtain ⟨k, h1, h2, hl⟩ := h.get
  have ho : nextOk L r sort = true := by
    unfold nextOk
    rw [h1, decide_eq_true h.1]
    dsimp only
    rw [h2, hm]
    rfl
  refine ⟨?_, ?_⟩
  · unfold nextS
    rw [ho, if_pos rfl, h1]
    exact h2
  · unfold nextR
    rw [ho, if_pos rfl]
    exact h.adv
theorem Rem.len (h : Rem L r ts) : ts.length ≤ L.length - r.i := by
  rw [← h.2, List.length_map, List.length_drop]
  exact Nat.le_refl _
/-! ### terms -/
def sepT : List Tm → List ByteArray
  | [] => []
  | [t] => [t.name]
  | t :: u :: r => t.name :: kCom :: sepT (u :: r)
theorem const_novar {s : ByteArray} (h : pconstant s = true) : pvariable s = false := by
  rw [Bool.eq_false_iff]
  intro hv
  unfold pconstant at h
  unfold pvariable at hv
  simp only [Bool.and_eq_true] at h hv
  have h1 := pconstant_head h.1
  obtain ⟨c, q, hl, hn, hp⟩ := lts_cons (headB_pos hv.1.2)
  have h2 := hv.1.2
  rw [hp] at h1 h2
  have e1 := (lower_low h1).1
  have e2 := (upper_up h2).1
  rw [e1] at e2
  exact absurd e2 (by decide)
theorem term_eq {u : Tm} (h : ptermok u = true) : (⟨pvariable u.name, u.name⟩ : Tm) = u ∧ mayT 2 u.name = true := by
  obtain ⟨v, s⟩ := u
  unfold ptermok at h
  cases v with
  | true =>
    have h : pvariable s = true := h
    refine ⟨by rw [h], ?_⟩
    show (pconstant s || pvariable s) = true
    rw [h, Bool.or_true]
  | false =>
    have h : pconstant s = true := h
    refine ⟨by rw [const_novar h], ?_⟩
    show (pconstant s || pvariable s) = true
    rw [h, Bool.true_or]
theorem saidL_law : ∀ (us : List Tm) (f : Nat) (r : Rs) (acc : List Tm) (rest : List ByteArray), us ≠ [] → (∀ u ∈ us, ptermok u = true) → acc.length + us.length ≤ 4 → us.length ≤ f → (∀ x q, rest = x :: q → x ≠ kCom) → Rem L r (sepT us ++ rest) →
    ∃ r', saidL L n f r acc = (r', acc ++ us) ∧ Rem L r' rest
  | [], f, r, acc, rest, h, _, _, _, _, _ => absurd rfl h
  | [u], 0, r, acc, rest, _, _, _, hf, _, _ => absurd hf (by simp)
  | u :: v :: us, 0, r, acc, rest, _, _, _, hf, _, _ => absurd hf (by simp)
  | [u], f + 1, r, acc, rest, _, ho, hl, hf, hr, h => by
    obtain ⟨e1, e2⟩ := term_eq (ho u (by simp))
    have h : Rem L r (u.name :: rest) := h
    obtain ⟨q1, q2⟩ := h.next (n := n) e2
    refine ⟨nextR L n r 2, ?_, q2⟩
    unfold saidL
    rw [if_pos h.1, if_pos q2.1, if_neg (by simp at hl; omega), q2.not hr, if_neg Bool.false_ne_true, q1, e1]
  | u :: v :: us, f + 1, r, acc, rest, _, ho, hl, hf, hr, h => by
    obtain ⟨e1, e2⟩ := term_eq (ho u (by simp))
    have h : Rem L r (u.name :: kCom :: (sepT (v :: us) ++ rest)) := h
    obtain ⟨q1, q2⟩ := h.next (n := n) e2
    obtain ⟨r', h1, h2⟩ := saidL_law (v :: us) f (nextR L n r 2).adv (acc ++ [u]) rest (by simp) (fun x hx => ho x (by simp at hx ⊢; exact Or.inr hx)) (by simp at hl ⊢; omega) (by simp at hf ⊢; omega) hr q2.adv
    refine ⟨r', ?_, h2⟩
    unfold saidL
    rw [if_pos h.1, if_pos q2.1, if_neg (by simp at hl; omega), q2.is, decide_eq_true rfl, if_pos rfl, q1, e1, h1]
    simp
/-! ### atoms -/
theorem ok_parts {a : Atm} (h : pcheck3 a = 0) : pprincipal a.says = true ∧ pprincipal a.pred = true ∧ 0 ≤ a.n ∧ a.n ≤ 4 ∧ a.termsB = true ∧ a.restB = true := by
  unfold pcheck3 at h
  split at h
  · cases h
  rename_i h1
  split at h
  · cases h
  rename_i h2
  split at h
  · cases h
  rename_i h3
  split at h
  · cases h
  rename_i h4
  rw [Bool.not_eq_false, Bool.and_eq_true] at h1
  exact ⟨h1.1, h1.2, by omega, by omega, by simpa using h3, by simpa using h4⟩
theorem ok_count {a : Atm} (h : pcheck3 a = 0) : (a.count : Int) = a.n := by
  obtain ⟨_, _, h1, h2, _⟩ := ok_parts h
  unfold Atm.count
  omega
theorem ok_term {a : Atm} (h : pcheck3 a = 0) {k : Nat} (hk : k < a.count) : ptermok (a.arg k) = true := by
  have hc := ok_count h
  obtain ⟨_, _, h1, h2, h3, _⟩ := ok_parts h
  unfold Atm.termsB at h3
  rw [List.all_eq_true] at h3
  have := h3 k (by rw [List.mem_range]; omega)
  have hd : decide ((k : Int) < a.n) = true := decide_eq_true (by omega)
  simpa [hd] using this
theorem ok_rest {a : Atm} (h : pcheck3 a = 0) {k : Nat} (hk : a.count ≤ k) (h4 : k < 4) : a.arg k = noT := by
  have hc := ok_count h
  obtain ⟨_, _, h1, h2, _, h3⟩ := ok_parts h
  unfold Atm.restB at h3
  rw [List.all_eq_true] at h3
  have := h3 k (by rw [List.mem_range]; omega)
  have hd : decide ((k : Int) < a.n) = false := decide_eq_false (by omega)
  simpa [hd, noT] using this
def termsOf (a : Atm) : List Tm := a.args.take a.count
theorem terms_len (a : Atm) : (termsOf a).length = a.count := by
  unfold termsOf
  rw [List.length_take]
  have := a.count_le
  show min a.count 4 = _
  omega
theorem args_arg (a : Atm) {k : Nat} (hk : k < 4) : a.args[k]? = some (a.arg k) := by
  obtain rfl | rfl | rfl | rfl : k = 0 ∨ k = 1 ∨ k = 2 ∨ k = 3 := by omega
  all_goals rfl
theorem terms_get (a : Atm) {k : Nat} (hk : k < a.count) : (termsOf a)[k]? = some (a.arg k) := by
  have := a.count_le
  unfold termsOf
  rw [List.getElem?_take, if_pos hk, args_arg a (by omega)]
theorem terms_ok {a : Atm} (h : pcheck3 a = 0) : ∀ u ∈ termsOf a, ptermok u = true := fun u hu => by
  obtain ⟨k, hk⟩ := List.mem_iff_getElem?.1 hu
  have hlt : k < a.count := by
    have := (List.getElem?_eq_some_iff.1 hk).1
    rwa [terms_len] at this
  rw [terms_get a hlt] at hk
  injection hk with hk
  subst hk
  exact ok_term h hlt
theorem mkAt_eq {a : Atm} (h : pcheck3 a = 0) (s : ByteArray) : mkAt s a.pred (termsOf a) = { a with says := s } := by
  have hc := ok_count h
  have hg : ∀ k, k < 4 → (termsOf a).getD k noT = a.arg k := fun k hk => by
    rw [List.getD_eq_getElem?_getD]
    by_cases hlt : k < a.count
    · rw [terms_get a hlt]
      rfl
    · rw [List.getElem?_eq_none (by rw [terms_len]; omega), ok_rest h (by omega) hk]
      rfl
  unfold mkAt
  rw [terms_len, hc, hg 0 (by omega), hg 1 (by omega), hg 2 (by omega), hg 3 (by omega)]
  rfl
def saidTk (a : Atm) : List ByteArray := a.pred :: (if a.count = 0 then [] else kOpen :: (sepT (termsOf a) ++ [kShut]))
def atomTk (a : Atm) : List ByteArray := a.says :: kSays :: saidTk a
theorem said_law {a : Atm} (ha : pcheck3 a = 0) (s : ByteArray) (hr : ∀ x q, rest = x :: q → x ≠ kOpen) (h : Rem L r (saidTk a ++ rest)) : ∃ r', saidF L n r s = (r', { a with says := s }) ∧ Rem L r' rest := by
  have hp := (ok_parts ha).2.1
  have hm : mayT 1 a.pred = true := hp
  have h : Rem L r (a.pred :: ((if a.count = 0 then [] else kOpen :: (sepT (termsOf a) ++ [kShut])) ++ rest)) := h
  obtain ⟨q1, q2⟩ := h.next (n := n) hm
  unfold saidF
  by_cases h0 : a.count = 0
  · rw [if_pos h0] at q2
    have q2 : Rem L (nextR L n r 1) rest := q2
    rw [q2.not hr, if_neg Bool.false_ne_true, q1]
    have e := mkAt_eq ha s
    have ht : termsOf a = [] := List.eq_nil_of_length_eq_zero (by rw [terms_len]; exact h0)
    rw [ht] at e
    exact ⟨_, by rw [e], q2⟩
  · rw [if_neg h0] at q2
    have q2 : Rem L (nextR L n r 1) (kOpen :: ((sepT (termsOf a) ++ [kShut]) ++ rest)) := q2
    rw [q2.is, decide_eq_true rfl, if_pos rfl, q1]
    have q3 := q2.adv
    rw [List.append_assoc] at q3
    have hl := terms_len a
    have h4 := a.count_le
    obtain ⟨r', h1, h2⟩ := saidL_law (n := n) (termsOf a) 5 (nextR L n r 1).adv [] ([kShut] ++ rest) (fun e => by rw [e] at hl; exact h0 hl.symm) (terms_ok ha) (by rw [hl]; simp; omega) (by rw [hl]; omega) (fun x q e => by
      injection e with e _
      rw [← e]
      decide) q3
    rw [h1]
    dsimp only
    rw [List.nil_append, mkAt_eq ha s]
    exact ⟨_, rfl, h2.must⟩
theorem atom_law {a : Atm} (ha : pcheck3 a = 0) (hr : ∀ x q, rest = x :: q → x ≠ kOpen) (h : Rem L r (atomTk a ++ rest)) : ∃ r', atomF L n r = (r', a) ∧ Rem L r' rest := by
  have hs := (ok_parts ha).1
  have hm : mayT 0 a.says = true := hs
  have h : Rem L r (a.says :: kSays :: (saidTk a ++ rest)) := h
  obtain ⟨q1, q2⟩ := h.next (n := n) hm
  obtain ⟨r', h1, h2⟩ := said_law (n := n) ha a.says hr (q2.must (n := n))
  refine ⟨r', ?_, h2⟩
  unfold atomF
  rw [q1, h1]
/-! ### bodies -/
def sepA : List Atm → List ByteArray
  | [] => []
  | [a] => atomTk a
  | a :: b :: l => atomTk a ++ kCom :: sepA (b :: l)
def bodyTk (l : List Atm) : List ByteArray := if l = [] then [] else kIf :: sepA l
theorem bodyL_law : ∀ (l : List Atm) (f : Nat) (r : Rs) (acc : List Atm) (rest : List ByteArray), l ≠ [] → (∀ a ∈ l, pcheck3 a = 0) → l.length ≤ f → (∀ x q, rest = x :: q → x ≠ kCom ∧ x ≠ kOpen) → Rem L r (sepA l ++ rest) →
    ∃ r', bodyL L n f r acc = (r', acc ++ l) ∧ Rem L r' rest
  | [], f, r, acc, rest, h, _, _, _, _ => absurd rfl h
  | [a], 0, r, acc, rest, _, _, hf, _, _ => absurd hf (by simp)
  | a :: b :: l, 0, r, acc, rest, _, _, hf, _, _ => absurd hf (by simp)
  | [a], f + 1, r, acc, rest, _, ho, hf, hr, h => by
    obtain ⟨r1, h1, h2⟩ := atom_law (n := n) (ho a (by simp)) (fun x q e => (hr x q e).2) h
    refine ⟨r1, ?_, h2⟩
    unfold bodyL
    rw [if_pos h.1, h1]
    dsimp only
    rw [h2.not (fun x q e => (hr x q e).1), if_neg Bool.false_ne_true]
  | a :: b :: l, f + 1, r, acc, rest, _, ho, hf, hr, h => by
    have h : Rem L r (atomTk a ++ (kCom :: (sepA (b :: l) ++ rest))) := by
      have e : sepA (a :: b :: l) ++ rest = atomTk a ++ (kCom :: (sepA (b :: l) ++ rest)) := by
        simp [sepA]
      rwa [e] at h
    obtain ⟨r1, h1, h2⟩ := atom_law (n := n) (ho a (by simp)) (fun x q e => by
      injection e with e _
      rw [← e]
      decide) h
    obtain ⟨r', h3, h4⟩ := bodyL_law (b :: l) f r1.adv (acc ++ [a]) rest (by simp) (fun x hx => ho x (by simp at hx ⊢; exact Or.inr hx)) (by simp at hf ⊢; omega) hr h2.adv
    refine ⟨r', ?_, h4⟩
    unfold bodyL
    rw [if_pos h.1, h1]
    dsimp only
    rw [h2.is, decide_eq_true rfl, if_pos rfl, h3]
    simp
theorem sepA_len : ∀ l : List Atm, l.length ≤ (sepA l).length
  | [] => Nat.le_refl _
  | [a] => by simp [sepA, atomTk]
  | a :: b :: l => by
    have := sepA_len (b :: l)
    simp only [sepA, List.length_append, List.length_cons, atomTk] at this ⊢
    omega
theorem body_law {l : List Atm} (ho : ∀ a ∈ l, pcheck3 a = 0) (hr : ∀ x q, rest = x :: q → x ≠ kCom ∧ x ≠ kOpen ∧ x ≠ kIf) (h : Rem L r (bodyTk l ++ rest)) : ∃ r', bodyF L n r = (r', l) ∧ Rem L r' rest := by
  unfold bodyF
  by_cases hl : l = []
  · subst hl
    have h : Rem L r rest := h
    rw [h.not (fun x q e => (hr x q e).2.2), if_neg Bool.false_ne_true]
    exact ⟨r, rfl, h⟩
  · unfold bodyTk at h
    rw [if_neg hl] at h
    have h : Rem L r (kIf :: (sepA l ++ rest)) := h
    rw [h.is, decide_eq_true rfl, if_pos rfl]
    have hn := h.adv.len
    rw [List.length_append] at hn
    have := sepA_len l
    obtain ⟨r', h1, h2⟩ := bodyL_law (n := n) l (L.length + 1) r.adv [] rest hl ho (by omega) (fun x q e => ⟨(hr x q e).1, (hr x q e).2.1⟩) h.adv
    exact ⟨r', by rw [h1, List.nil_append], h2⟩
/-! ### clears -/
end Go.Vs
namespace Go.Proofs.Ytinbfakpjnnagaa
open Go.RowKit Go.Vs Go.Vs.Ab
set_option maxRecDepth 100000
/-! ### words and signs -/
theorem sh_of {y : ByteArray} {c : UInt8} {r : List UInt8} (h : lts y = c :: r) (hc : varB c = false) : SH y := ⟨c, r, h, hc⟩
theorem LS.sp : LS ⟨#[32]⟩ [] := LS.blank (by decide)
theorem SH.sp : SH ⟨#[32]⟩ := sh_of (r := []) rfl (by decide)
theorem LS.kw {w : ByteArray} (h : pconst0 w = true) : LS (w ++ ⟨#[32]⟩) [w] := (LX.const h (pconstant_head h)).app SH.sp LS.sp
theorem LS.kw2 {w : ByteArray} (h : pconst0 w = true) : LS (⟨#[32]⟩ ++ (w ++ ⟨#[32]⟩)) [w] := LS.sp.app (LS.kw h)
theorem ls_says : LS tSays [kSays] := LS.kw2 (w := kSays) (by decide)
theorem ls_if : LS tIf [kIf] := LS.kw2 (w := kIf) (by decide)
theorem ls_com : LS tComma [kCom] := (LS.sign (c := 44) (by decide) (by decide) (eq_false (by decide))).app LS.sp
theorem ls_open : LS tOpen [kOpen] := LS.sign (by decide) (by decide) (eq_false (by decide))
theorem ls_shut : LS tShut [kShut] := LS.sign (by decide) (by decide) (eq_false (by decide))
theorem sh_com : SH tComma := sh_of (c := 44) (r := [32]) rfl (by decide)
theorem sh_open : SH tOpen := sh_of (c := 40) (r := []) rfl (by decide)
theorem sh_shut : SH tShut := sh_of (c := 41) (r := []) rfl (by decide)
theorem sh_says : SH tSays := sh_of (c := 32) rfl (by decide)
theorem sh_if : SH tIf := sh_of (c := 32) rfl (by decide)
/-! ### atoms -/
theorem sepT_snoc : ∀ {l : List Tm} (x : Tm), l ≠ [] → sepT (l ++ [x]) = sepT l ++ [kCom, x.name]
  | [], x, h => absurd rfl h
  | [t], x, _ => rfl
  | t :: u :: r, x, _ => by
    have ih := sepT_snoc (l := u :: r) x (by simp)
    show t.name :: kCom :: sepT ((u :: r) ++ [x]) = _
    rw [ih]
    rfl
theorem lx_saidK {a : Atm} (h : pcheck3 a = 0) : ∀ k, k ≤ a.count → LX (psaidK a k) (a.pred :: (if k = 0 then [] else kOpen :: sepT ((termsOf a).take k)))
  | 0, _ => LX.prin (ok_parts h).2.1
  | k + 1, hk => by
    have ih := lx_saidK h k (by omega)
    have hn := LX.term (ok_term h (k := k) (by omega))
    have hl := terms_len a
    have ht : (termsOf a).take (k + 1) = (termsOf a).take k ++ [a.arg k] := by
      rw [List.take_add_one, terms_get a (by omega)]
      rfl
    unfold psaidK
    rw [if_neg (Nat.succ_ne_zero k), ht]
    by_cases h0 : k = 0
    · subst h0
      rw [if_pos rfl, ByteArray.append_assoc]
      rw [if_pos rfl] at ih
      have := ih.appX (Or.inr (sh_open.app _)) (ls_open.appX hn)
      exact this
    · rw [if_neg h0, ByteArray.append_assoc]
      rw [if_neg h0] at ih
      have := ih.appX (Or.inr (sh_com.app _)) (ls_com.appX hn)
      rw [sepT_snoc _ (fun e => by
        have := congrArg List.length e
        rw [List.length_take, List.length_nil] at this
        omega)]
      have e : a.pred :: kOpen :: (sepT ((termsOf a).take k) ++ [kCom, (a.arg k).name]) = (a.pred :: kOpen :: sepT ((termsOf a).take k)) ++ ([kCom] ++ [(a.arg k).name]) := rfl
      rw [e]
      exact this
theorem lx_said {a : Atm} (h : pcheck3 a = 0) : LX (psaid a) (saidTk a) := by
  have hk := lx_saidK h a.count (Nat.le_refl _)
  have hl := terms_len a
  unfold psaid saidTk
  by_cases h0 : a.count = 0
  · rw [if_neg (by omega), if_pos h0]
    exact LX.prin (ok_parts h).2.1
  · rw [if_pos (by omega), if_neg h0]
    rw [if_neg h0, List.take_of_length_le (by omega)] at hk
    exact (hk.app sh_shut ls_shut).x
theorem lx_text {a : Atm} (h : pcheck3 a = 0) : LX (ptext a) (atomTk a) := by
  unfold ptext
  have := ((LX.prin (ok_parts h).1).app sh_says ls_says).appX (lx_said h)
  exact this
/-! ### bodies -/
theorem sepA_snoc : ∀ {l : List Atm} (x : Atm), l ≠ [] → sepA (l ++ [x]) = sepA l ++ kCom :: atomTk x
  | [], x, h => absurd rfl h
  | [t], x, _ => rfl
  | t :: u :: r, x, _ => by
    have ih := sepA_snoc (l := u :: r) x (by simp)
    show atomTk t ++ kCom :: sepA ((u :: r) ++ [x]) = _
    rw [ih]
    show _ = (atomTk t ++ kCom :: sepA (u :: r)) ++ _
    simp
theorem lx_bodyK {l : List Atm} (h : ∀ a ∈ l, pcheck3 a = 0) : ∀ k, k ≤ l.length → LX (pbodyK l k) (bodyTk (l.take k)) ∧ ((pbodyK l k).size = 0 ∨ SH (pbodyK l k))
  | 0, _ => ⟨LS.nil.x, Or.inl rfl⟩
  | k + 1, hk => by
    obtain ⟨ih, ih2⟩ := lx_bodyK h k (by omega)
    have ha := lx_text (h l[k] (List.getElem_mem (by omega)))
    rw [pbodyK_next (by omega), List.take_succ_eq_append_getElem (by omega)]
    generalize l[k] = a at *
    by_cases h0 : k = 0
    · subst h0
      rw [if_pos rfl]
      have e : pbodyK l 0 = ⟨#[]⟩ := rfl
      rw [e, none_app rfl, List.take_zero, List.nil_append]
      exact ⟨ls_if.appX ha, Or.inr (sh_if.app _)⟩
    · rw [if_neg h0]
      have hne : l.take k ≠ [] := fun e => by
        have := congrArg List.length e
        rw [List.length_take, List.length_nil] at this
        omega
      have := ih.appX (Or.inr (sh_com.app (ptext a))) (ls_com.appX ha)
      have e : bodyTk (l.take k ++ [a]) = bodyTk (l.take k) ++ ([kCom] ++ atomTk a) := by
        unfold bodyTk
        rw [if_neg (by simp), if_neg hne, sepA_snoc _ hne]
        rfl
      rw [e]
      refine ⟨this, Or.inr ?_⟩
      rcases ih2 with h2 | h2
      · exfalso
        have hpos : 0 < (pbodyK l k).size := by
          obtain ⟨j, rfl⟩ : ∃ j, k = j + 1 := ⟨k - 1, by omega⟩
          rw [pbodyK_next (by omega), app_size, app_size]
          have z1 : tIf.size = 4 := rfl
          have z2 : tComma.size = 2 := rfl
          split <;> omega
        omega
      · exact h2.app _
theorem lx_body {l : List Atm} (h : ∀ a ∈ l, pcheck3 a = 0) : LX (pbody l) (bodyTk l) ∧ ((pbody l).size = 0 ∨ SH (pbody l)) := by
  have := lx_bodyK h l.length (Nat.le_refl _)
  rwa [List.take_of_length_le (Nat.le_refl _)] at this
theorem all_okA {l : List Atm} (h : l.all okA = true) : ∀ a ∈ l, pcheck3 a = 0 := fun a ha => by
  rw [List.all_eq_true] at h
  exact of_decide_eq_true (h a ha)
/-! ### numbers -/
/-! ### clears -/
end Go.Proofs.Ytinbfakpjnnagaa
namespace Go.Proofs.Ytinbfakpjnnagaa
open Go.RowKit Go.Vs Go.Vs.Ab
set_option maxRecDepth 100000
/-! ### tokens of a policy's text -/
def ruleTk (r : Rul) : List ByteArray := atomTk r.head ++ (bodyTk r.body ++ [kDot])
/-! ### what the parser makes of them -/
variable {L : List Tk} {n : Int} {rest : List ByteArray}
theorem kdot_ok : ∀ (x : ByteArray) (q : List ByteArray), kDot :: rest = x :: q → x ≠ kCom ∧ x ≠ kOpen ∧ x ≠ kIf := fun x q e => by
  injection e with e _
  rw [← e]
  decide
theorem body_head {l : List Atm} : ∀ (x : ByteArray) (q : List ByteArray), bodyTk l ++ (kDot :: rest) = x :: q → x ≠ kOpen ∧ x ≠ kCan := fun x q e => by
  unfold bodyTk at e
  split at e
  · injection e with e _
    rw [← e]
    decide
  · injection e with e _
    rw [← e]
    decide
theorem prin_nokw {s w : ByteArray} (h : pprincipal s = true) (hw : preserved w = true) : decide (s = w) = false := decide_eq_false fun e => by
  subst e
  unfold pprincipal pconstant at h
  simp only [Bool.and_eq_true, hw] at h
  exact absurd h.1.2 (by decide)
theorem arm_says {r : Rs} {p : Pp} {wq wb : Bool} {s : ByteArray} {ts : List ByteArray} (hs : pprincipal s = true) (h : Rem L r (s :: ts)) : armF L n ⟨r, p, wq, wb⟩ = ⟨(saysF L n r p).1, (saysF L n r p).2, wq, wb⟩ := by
  unfold armF
  dsimp only
  rw [h.is, h.is, h.is, h.is, h.is, prin_nokw hs (by decide), prin_nokw hs (by decide), prin_nokw hs (by decide), prin_nokw hs (by decide), prin_nokw hs (by decide), if_neg Bool.false_ne_true, if_neg Bool.false_ne_true, if_neg Bool.false_ne_true, if_neg Bool.false_ne_true, if_neg Bool.false_ne_true]
theorem can_of {r : Rs} {t u : ByteArray} {ts : List ByteArray} (h : Rem L r (t :: u :: ts)) : canT L r = decide (u = kCan) := by
  obtain ⟨k, h1, h2, hl⟩ := h.adv.get
  unfold canT
  have h1 : L[r.i + 1]? = some k := h1
  rw [h1, decide_eq_true h.1]
  dsimp only
  rw [h2, Bool.true_and]
theorem step_rule {x : Rul} (hx : okRu x = true) {r : Rs} (p : Pp) (wq wb : Bool) (h : Rem L r (ruleTk x ++ rest)) : ∃ r', stepF L n ⟨r, p, wq, wb⟩ = ⟨r', { p with rules := p.rules ++ [⟨x.head, x.body.isEmpty, x.body⟩] }, wq, wb⟩ ∧ Rem L r' rest := by
  unfold okRu at hx
  rw [Bool.and_eq_true] at hx
  have ha := of_decide_eq_true hx.1
  have hs := (ok_parts ha).1
  have e : ruleTk x ++ rest = x.head.says :: kSays :: (saidTk x.head ++ (bodyTk x.body ++ (kDot :: rest))) := by
    unfold ruleTk atomTk
    simp
  rw [e] at h
  have hm : mayT 0 x.head.says = true := hs
  obtain ⟨q1, q2⟩ := h.next (n := n) hm
  have q3 := q2.must (n := n)
  obtain ⟨r1, h1, h2⟩ := said_law (n := n) ha x.head.says (fun y q e => (body_head y q e).1) q3
  obtain ⟨r2, h3, h4⟩ := body_law (n := n) (all_okA hx.2) kdot_ok h2
  have hcan : canT L (mustT L n (nextR L n r 0) kSays) = false := by
    have key : ∀ (t : ByteArray) (q : List ByteArray), saidTk x.head ++ (bodyTk x.body ++ (kDot :: rest)) = t :: q → ∃ u q', q = u :: q' ∧ u ≠ kCan := fun t q e => by
      unfold saidTk at e
      injection e with e1 e2
      have e2 : (if x.head.count = 0 then [] else kOpen :: (sepT (termsOf x.head) ++ [kShut])) ++ (bodyTk x.body ++ (kDot :: rest)) = q := e2
      rw [← e2]
      by_cases h0 : x.head.count = 0
      · rw [if_pos h0, List.nil_append]
        cases hb : bodyTk x.body ++ (kDot :: rest) with
        | nil =>
          have := congrArg List.length hb
          simp at this
        | cons u q' => exact ⟨u, q', rfl, (body_head u q' hb).2⟩
      · rw [if_neg h0]
        exact ⟨_, _, rfl, by decide⟩
    obtain ⟨u, q', hu, hne⟩ := key x.head.pred ((if x.head.count = 0 then [] else kOpen :: (sepT (termsOf x.head) ++ [kShut])) ++ (bodyTk x.body ++ (kDot :: rest))) rfl
    have q3' : Rem L (mustT L n (nextR L n r 0) kSays) (x.head.pred :: ((if x.head.count = 0 then [] else kOpen :: (sepT (termsOf x.head) ++ [kShut])) ++ (bodyTk x.body ++ (kDot :: rest)))) := q3
    rw [hu] at q3'
    rw [can_of q3']
    exact decide_eq_false hne
  have hsays : saysF L n r p = (r2, { p with rules := p.rules ++ [⟨x.head, x.body.isEmpty, x.body⟩] }) := by
    unfold saysF
    dsimp only
    rw [hcan, if_neg Bool.false_ne_true, q1, h1]
    dsimp only
    rw [h3]
  refine ⟨_, ?_, h4.must (n := n)⟩
  unfold stepF
  rw [arm_says hs h, hsays]
/-! ### all of it -/
theorem pol_go {f : Nat} {st : Pst} {t : ByteArray} {ts : List ByteArray} (h : Rem L st.r (t :: ts)) : polL L n (f + 1) st = polL L n f (stepF L n st) := by
  obtain ⟨k, _, _, hl⟩ := h.get
  rw [polL_succ, if_pos ⟨h.1, hl⟩]
end Go.Proofs.Ytinbfakpjnnagaa
namespace Go.Proofs.Ytinbfakpjnnagaa
open Go.RowKit Go.Vs Go.Vs.Ab
set_option maxRecDepth 100000
theorem ls_dot1 : LS dotB [kDot] := LS.sign (c := 46) (by decide) (by decide) (eq_false (by decide))
theorem sh_dot1 : SH dotB := sh_of (c := 46) (r := []) rfl (by decide)
theorem ls_clause {h : Atm} {b : List Atm} (h1 : pcheck3 h = 0) (h2 : ∀ a ∈ b, pcheck3 a = 0) : LS ((ptext h ++ pbody b) ++ dotB) (ruleTk ⟨h, b.isEmpty, b⟩) := by
  obtain ⟨b1, b2⟩ := lx_body h2
  have ht := lx_text h1
  unfold ruleTk
  dsimp only
  rw [← List.append_assoc]
  exact (ht.appX b2 b1).app sh_dot1 ls_dot1
def rulePp (h : Atm) (b : List Atm) : Pp := { pp0 with rules := [⟨h, b.isEmpty, b⟩] }
theorem clause_back {h : Atm} {b : List Atm} (h1 : pcheck3 h = 0) (h2 : ∀ a ∈ b, pcheck3 a = 0) (hz : ((ptext h ++ pbody b) ++ dotB).size ≤ 65536) : polParse ((ptext h ++ pbody b) ++ dotB) = (polOf (rulePp h b), 0, 0) := by
  obtain ⟨e1, e2⟩ := (ls_clause h1 h2).toks hz
  unfold polParse
  obtain ⟨n, hn⟩ : ∃ n : Int, n = (((ptext h ++ pbody b) ++ dotB).size : Nat) := ⟨_, rfl⟩
  rw [if_neg (fun hc => hc e1), ← hn]
  generalize (toksAll ((ptext h ++ pbody b) ++ dotB)).1 = L at *
  have hok : okRu ⟨h, b.isEmpty, b⟩ = true := by
    unfold okRu
    dsimp only
    rw [Bool.and_eq_true]
    exact ⟨decide_eq_true h1, List.all_eq_true.2 fun a ha => decide_eq_true (h2 a ha)⟩
  have hr : Rem L ⟨0, 0, 0⟩ (ruleTk ⟨h, b.isEmpty, b⟩ ++ []) := ⟨rfl, by rw [List.append_nil]; exact e2⟩
  obtain ⟨r', a1, b1⟩ := step_rule (n := n) hok pp0 false false hr
  have hne : 1 ≤ L.length := by
    have := congrArg List.length e2
    unfold ruleTk atomTk at this
    simp at this
    omega
  obtain ⟨f, hf⟩ : ∃ f, L.length = f + 1 := ⟨L.length - 1, by omega⟩
  have hS : polS L n = ⟨r', rulePp h b, false, false⟩ := by
    unfold polS
    have g1 := pol_go (n := n) (f := L.length) (st := ⟨⟨0, 0, 0⟩, pp0, false, false⟩) (t := h.says) hr
    rw [a1] at g1
    rw [g1]
    exact polL_end L n L.length _ (fun hc => by
      have h3 := b1.2
      rw [List.map_eq_nil_iff, List.drop_eq_nil_iff] at h3
      have := hc.2
      dsimp only at this
      omega)
  rw [hS, if_neg (fun hc => hc b1.1)]
/-! ### the text, as it is joined -/
theorem joinB_one' (s sep : ByteArray) : joinB [s] sep = s := by
  unfold joinB
  apply ByteArray.ext
  simp [Lib.join]
theorem pbodyK_join (l : List Atm) : ∀ k, 0 < k → k ≤ l.length → pbodyK l k = tIf ++ joinB ((l.take k).map ptext) tComma
  | 0, h, _ => absurd h (Nat.lt_irrefl 0)
  | k + 1, _, hk => by
    rw [pbodyK_next (by omega)]
    by_cases h0 : k = 0
    · subst h0
      have : l.take 1 = [l[0]] := by
        match hc : l, hk with
        | x :: r, _ => simp
      rw [if_pos rfl, this, List.map_cons, List.map_nil, joinB_one']
      show (⟨#[]⟩ : ByteArray) ++ _ = _
      apply ByteArray.ext
      simp
    · rw [if_neg h0, pbodyK_join l k (by omega) (by omega), List.take_succ_eq_append_getElem (by omega), List.map_append, List.map_cons, List.map_nil, join_snoc _ _ _ (by
        intro e
        have := congrArg List.length e
        rw [List.length_map, List.length_take, List.length_nil] at this
        omega)]
      simp only [ByteArray.append_assoc]
def clText (h : Atm) (b : List Atm) : ByteArray := ptext h ++ pbody b
theorem clText_nil (h : Atm) : clText h [] = ptext h := by
  have e : pbody [] = ⟨#[]⟩ := rfl
  unfold clText
  rw [e]
  apply ByteArray.ext
  simp
theorem clText_join (h : Atm) {b : List Atm} (hb : b ≠ []) : clText h b = (ptext h ++ tIf) ++ joinB (b.map ptext) tComma := by
  have := pbodyK_join b b.length (List.length_pos_iff.2 hb) (Nat.le_refl _)
  rw [List.take_of_length_le (Nat.le_refl _)] at this
  unfold clText pbody
  rw [this, ByteArray.append_assoc]
end Go.Proofs.Ytinbfakpjnnagaa
namespace Go.Proofs.Ytinbfakpjnnagaa
open Go.RowKit Go.Vs Go.Vs.Ab
set_option maxRecDepth 100000
set_option maxHeartbeats 4000000
theorem text13_does (c : Cls) (h1 : AtSz c.head) (h2 : ∀ a ∈ c.body, AtSz a) (h3 : c.body.length ≤ 400) : Does Try.prog 12 [clsA c] (fun m => (sA (clText c.head c.body), m)) := by
  obtain ⟨h, ex, b⟩ := c
  dsimp only at h1 h2 h3 ⊢
  have cH := text_does h h1
  refine does_of' Try.func12 rfl (by kernel_rfl) rfl Try.ntmps12 rfl rfl fun Q hQ => ?_
  repeat (first | refine tr_seq_k fun _ _ => ?_ | (refine tr_region ?_; simp only [go_sem, reduceCtorEq, Nat.reduceEqDiff, Nat.reduceLT, Nat.reduceLeDiff, Nat.reduceAdd, Nat.reduceMul, Nat.reduceSub, Nat.reduceBEq, ↓reduceIte, clsC]) | refine k_of (by assumption) ?_ | refine tr_block ?_)
  refine tr_loop_k (σ := Nat) (fun k => [(1, .ptr 0 0), (3, colA stC 0 ((b.take k).map ptext)), (7, .c (slC atC ex b)), (8, iA b.length), (9, iA k)]) (fun k => ⟨[⟨false, ([.c (.v (.string h.says)), .c (.v (.string h.pred)), .c (.v (.int .i64 h.n)), .c (.v (.bool h.a0.v)), .c (.v (.string h.a0.name)), .c (.v (.bool h.a1.v)), .c (.v (.string h.a1.name)), .c (.v (.bool h.a2.v)), .c (.v (.string h.a2.name)), .c (.v (.bool h.a3.v)), .c (.v (.string h.a3.name))] : List AV) ++ [.c (slC atC ex b)]⟩], colH 9 1 ((b.take k).map ptext)⟩)
    (fun k => k ≤ b.length) (fun k => b.length - k) 0 (Nat.zero_le _) ⟨rfl, rfl, rfl, rfl, rfl, trivial⟩ rfl ?_
  rintro k hk K hK
  repeat (first | refine tr_seq_k fun _ _ => ?_ | (refine tr_region ?_; simp only [go_sem, reduceCtorEq, Nat.reduceEqDiff, Nat.reduceLT, Nat.reduceLeDiff, Nat.reduceAdd, Nat.reduceMul, Nat.reduceSub, Nat.reduceBEq, ↓reduceIte]) | refine k_of (by assumption) ?_)
  refine tr_cond rfl (fun ht => ?_) (fun hf => ?_)
  · have hlt : k < b.length := by simpa using ht
    have ws := wrap_succ (show k ≤ 1000000000 by omega)
    have ix := idxA12 (ex := ex) hlt
    have cT := text_does b[k] (h2 _ (List.getElem_mem hlt))
    have on : (b.take (k + 1)).map ptext = (b.take k).map ptext ++ [ptext b[k]] := by rw [List.take_succ_eq_append_getElem hlt, List.map_append]; rfl
    have tl : ((b.take k).map ptext).length ≤ k := by rw [List.length_map, List.length_take]; omega
    generalize b[k] = x at *
    have hA0 := fun hp => appS hp ((b.take k).map ptext) (ptext x) (by omega)
    rw [← on] at hA0
    have hb1 := build1T (ptext x)
    repeat (first | refine tr_seq_k fun _ _ => ?_ | (refine tr_region ?_; simp only [go_sem, reduceCtorEq, Nat.reduceEqDiff, Nat.reduceLT, Nat.reduceLeDiff, Nat.reduceAdd, Nat.reduceMul, Nat.reduceSub, Nat.reduceBEq, ↓reduceIte, ix, atC, hb1, one_max, hA0, ws]) | (refine call_of (cT) ?_ ?_; (first | rfl | simp only [go_sem, reduceCtorEq, Nat.reduceEqDiff, Nat.reduceLT, Nat.reduceLeDiff, Nat.reduceAdd, Nat.reduceMul, Nat.reduceSub, Nat.reduceBEq, ↓reduceIte, ix, atC, hb1, one_max, hA0, ws, shut_col]); simp only [go_sem, reduceCtorEq, Nat.reduceEqDiff, Nat.reduceLT, Nat.reduceLeDiff, Nat.reduceAdd, Nat.reduceMul, Nat.reduceSub, Nat.reduceBEq, ↓reduceIte, ix, atC, hb1, one_max, hA0, ws]) | refine k_of (by assumption) ?_ | refine tr_block ?_ | (refine tr_skip ?_; try simp only [ex_seq, ex_block]))
    exact hK (k + 1) _ _ hlt ⟨⟨rfl, rfl, rfl, rfl, rfl, trivial⟩, Keep.of (eh := [_]) (ew := []) rfl (by rw [List.append_nil]), by simp only [lowF, low_col]; rfl, rfl, Nat.le_refl _, Nat.zero_le _⟩ (by omega)
  · have hkl : k = b.length := by
      have := of_decide_eq_false hf
      omega
    subst hkl
    rw [List.take_length]
    by_cases h0 : b = []
    · subst h0
      repeat (first | refine tr_seq_k fun _ _ => ?_ | (refine tr_region ?_; simp only [go_sem, reduceCtorEq, Nat.reduceEqDiff, Nat.reduceLT, Nat.reduceLeDiff, Nat.reduceAdd, Nat.reduceMul, Nat.reduceSub, Nat.reduceBEq, ↓reduceIte]) | refine k_of (by assumption) ?_ | (refine tr_exit ?_; try simp only [ex_seq_exit, ex_block_exit, Nat.reduceEqDiff, if_true, if_false, ex_seq, ex_block, reduceCtorEq, ↓reduceIte]))
      refine tr_cond rfl (fun ht => ?_) (fun hf => ?_)
      · repeat (first | refine tr_seq_k fun _ _ => ?_ | (refine tr_region ?_; simp only [go_sem, reduceCtorEq, Nat.reduceEqDiff, Nat.reduceLT, Nat.reduceLeDiff, Nat.reduceAdd, Nat.reduceMul, Nat.reduceSub, Nat.reduceBEq, ↓reduceIte]) | (refine call_of (cH) ?_ ?_; (first | rfl | simp only [go_sem, reduceCtorEq, Nat.reduceEqDiff, Nat.reduceLT, Nat.reduceLeDiff, Nat.reduceAdd, Nat.reduceMul, Nat.reduceSub, Nat.reduceBEq, ↓reduceIte, shut_col]); simp only [go_sem, reduceCtorEq, Nat.reduceEqDiff, Nat.reduceLT, Nat.reduceLeDiff, Nat.reduceAdd, Nat.reduceMul, Nat.reduceSub, Nat.reduceBEq, ↓reduceIte]) | refine k_of (by assumption) ?_ | (refine tr_ret ?_; try simp only [ex_seq_ret, ex_block_ret]))
        refine (hQ _ _ [sA (ptext h)] ?_ (fun m => ?_)).2 <;> simp only [go_sem, reduceCtorEq, Nat.reduceEqDiff, Nat.reduceLT, Nat.reduceLeDiff, Nat.reduceAdd, Nat.reduceMul, Nat.reduceSub, Nat.reduceBEq, ↓reduceIte, Try.f12, clText_nil]
      · cases hf
    · have hne : b.map ptext ≠ [] := fun e => h0 (List.map_eq_nil_iff.1 e)
      have hl : (b.map ptext).length = b.length := List.length_map _
      have hpos : 0 < b.length := List.length_pos_iff.2 h0
      have e0 : ((((b.map ptext).length : Nat) : Int) == 0) = false := by
        rw [beq_eq_false_iff_ne, hl]
        omega
      have pb : pbody b = tIf ++ joinB (b.map ptext) tComma := by
        have := pbodyK_join b b.length hpos (Nat.le_refl _)
        rw [List.take_of_length_le (Nat.le_refl _)] at this
        exact this
      have sb := pbody_size h2 h3
      have z1 : tIf.size = 4 := rfl
      have js : (joinB (b.map ptext) tComma).size ≤ 4004004000 := by
        rw [pb, ByteArray.size_append] at sb
        omega
      have cJ := join_does (b.map ptext) tComma false (by rw [hl]; omega) (by omega)
      have th := ptext_size h1
      have a1 := sadd (a := ptext h) (b := tIf) (n := 100000000) (by omega) (by decide)
      have a2 := sadd (a := ptext h ++ tIf) (b := joinB (b.map ptext) tComma) (n := 5000000000) (by rw [ByteArray.size_append]; omega) (by decide)
      have hr := clText_join h h0
      rw [colA_ne stC 0 hne, colH_ne _ _ hne] at *
      repeat (first | refine tr_seq_k fun _ _ => ?_ | (refine tr_region ?_; simp only [go_sem, reduceCtorEq, Nat.reduceEqDiff, Nat.reduceLT, Nat.reduceLeDiff, Nat.reduceAdd, Nat.reduceMul, Nat.reduceSub, Nat.reduceBEq, ↓reduceIte, e0]) | refine k_of (by assumption) ?_ | (refine tr_exit ?_; try simp only [ex_seq_exit, ex_block_exit, Nat.reduceEqDiff, if_true, if_false, ex_seq, ex_block, reduceCtorEq, ↓reduceIte]))
      refine tr_cond rfl (fun ht => ?_) (fun hf => ?_)
      · cases ht
      · repeat (first | refine tr_seq_k fun _ _ => ?_ | (refine tr_region ?_; simp only [go_sem, reduceCtorEq, Nat.reduceEqDiff, Nat.reduceLT, Nat.reduceLeDiff, Nat.reduceAdd, Nat.reduceMul, Nat.reduceSub, Nat.reduceBEq, ↓reduceIte, a1, a2]) | (refine call_of (cH) ?_ ?_; (first | rfl | simp only [go_sem, reduceCtorEq, Nat.reduceEqDiff, Nat.reduceLT, Nat.reduceLeDiff, Nat.reduceAdd, Nat.reduceMul, Nat.reduceSub, Nat.reduceBEq, ↓reduceIte, a1, a2, shut_col]); simp only [go_sem, reduceCtorEq, Nat.reduceEqDiff, Nat.reduceLT, Nat.reduceLeDiff, Nat.reduceAdd, Nat.reduceMul, Nat.reduceSub, Nat.reduceBEq, ↓reduceIte, a1, a2]) | (refine call_of (cJ) ?_ ?_; (first | rfl | simp only [go_sem, reduceCtorEq, Nat.reduceEqDiff, Nat.reduceLT, Nat.reduceLeDiff, Nat.reduceAdd, Nat.reduceMul, Nat.reduceSub, Nat.reduceBEq, ↓reduceIte, a1, a2, shut_col]); simp only [go_sem, reduceCtorEq, Nat.reduceEqDiff, Nat.reduceLT, Nat.reduceLeDiff, Nat.reduceAdd, Nat.reduceMul, Nat.reduceSub, Nat.reduceBEq, ↓reduceIte, a1, a2]) | refine k_of (by assumption) ?_ | (refine tr_skip ?_; try simp only [ex_seq, ex_block]) | (refine tr_ret ?_; try simp only [ex_seq_ret, ex_block_ret]))
        refine (hQ _ _ [sA ((ptext h ++ tIf) ++ joinB (b.map ptext) tComma)] ?_ (fun m => ?_)).2 <;> simp only [go_sem, reduceCtorEq, Nat.reduceEqDiff, Nat.reduceLT, Nat.reduceLeDiff, Nat.reduceAdd, Nat.reduceMul, Nat.reduceSub, Nat.reduceBEq, ↓reduceIte, Try.f12, hr]
end Go.Proofs.Ytinbfakpjnnagaa
namespace Go.Proofs.Ytinbfakpjnnagaa
open Go.RowKit Go.Vs Go.Vs.Ab
set_option maxRecDepth 100000
set_option maxHeartbeats 4000000
theorem sameRule_does (a b : Atm) (x y : List Atm) (ex ex2 : Bool) (hl : x.length ≤ 1000000) : Does Try.prog 14 [atA a, atA b, slT ex x, slT ex2 y] (fun m => (bA (decide ((a, x) = (b, y))), m)) := by
  have e := fun u v => bin_eqA' u v a b
  simp only [pv_bind] at e
  have cA := sameA_does x y ex ex2 hl
  have hd : decide ((a, x) = (b, y)) = (decide (a = b) && decide (x = y)) := by
    simp only [Prod.mk.injEq, ← Bool.decide_and]
  rw [hd]
  cases h1 : decide (a = b) with
  | false =>
    rw [h1] at e
    refine does_of' Try.func14 rfl (by kernel_rfl) rfl Try.ntmps14 rfl rfl fun Q hQ => ?_
    repeat (first | refine tr_seq_k fun _ _ => ?_ | (refine tr_region ?_; simp only [go_sem, reduceCtorEq, Nat.reduceEqDiff, Nat.reduceLT, Nat.reduceLeDiff, Nat.reduceAdd, Nat.reduceMul, Nat.reduceSub, Nat.reduceBEq, ↓reduceIte, e]) | refine k_of (by assumption) ?_ | (refine tr_ret ?_; try simp only [ex_seq_ret, ex_block_ret]))
    refine (hQ _ _ [bA false] ?_ (fun m => rfl)).2 <;> simp only [go_sem, reduceCtorEq, Nat.reduceEqDiff, Nat.reduceLT, Nat.reduceLeDiff, Nat.reduceAdd, Nat.reduceMul, Nat.reduceSub, Nat.reduceBEq, ↓reduceIte, Try.f14]
  | true =>
    rw [h1] at e
    cases h2 : decide (x = y)
    all_goals
      rw [h2] at cA
      refine does_of' Try.func14 rfl (by kernel_rfl) rfl Try.ntmps14 rfl rfl fun Q hQ => ?_
      repeat (first | refine tr_seq_k fun _ _ => ?_ | (refine tr_region ?_; simp only [go_sem, reduceCtorEq, Nat.reduceEqDiff, Nat.reduceLT, Nat.reduceLeDiff, Nat.reduceAdd, Nat.reduceMul, Nat.reduceSub, Nat.reduceBEq, ↓reduceIte, e]) | (refine call_of (cA) ?_ ?_; (first | rfl | simp only [go_sem, reduceCtorEq, Nat.reduceEqDiff, Nat.reduceLT, Nat.reduceLeDiff, Nat.reduceAdd, Nat.reduceMul, Nat.reduceSub, Nat.reduceBEq, ↓reduceIte, e, shut_col]); simp only [go_sem, reduceCtorEq, Nat.reduceEqDiff, Nat.reduceLT, Nat.reduceLeDiff, Nat.reduceAdd, Nat.reduceMul, Nat.reduceSub, Nat.reduceBEq, ↓reduceIte, e]) | refine k_of (by assumption) ?_ | (refine tr_ret ?_; try simp only [ex_seq_ret, ex_block_ret]))
      refine (hQ _ _ [bA _] ?_ (fun m => rfl)).2 <;> simp only [go_sem, reduceCtorEq, Nat.reduceEqDiff, Nat.reduceLT, Nat.reduceLeDiff, Nat.reduceAdd, Nat.reduceMul, Nat.reduceSub, Nat.reduceBEq, ↓reduceIte, Try.f14]
end Go.Proofs.Ytinbfakpjnnagaa
namespace Go.Proofs.Ytinbfakpjnnagaa
open Go.RowKit Go.Vs Go.Vs.Ab
set_option maxRecDepth 100000
set_option maxHeartbeats 4000000
theorem idxCl {ex : Bool} {l : List Cls} {k : Nat} (h : k < l.length) : aIndexAddr Try.prog 33 (.c (slC clsC ex l)) (.c (.v (.int .i64 (k : Int)))) = some (.cptr (clsC l[k] ++ (l.drop (k + 1)).flatMap clsC)) :=
  idx_R clsC 12 (fun _ => rfl) Try.underlying33 sz43 (by decide) h
/-! ### the example -/
def cl13 : Cls := ⟨at1, false, [leadA gr1, at2]⟩
abbrev tEx13 : ByteArray := ⟨#[97, 108, 105, 99, 101, 32, 115, 97, 121, 115, 32, 112, 40, 88, 41, 32, 105, 102, 32, 98, 111, 98, 32, 115, 97, 121, 115, 32, 112, 40, 88, 41, 44, 32, 99, 97, 114, 111, 108, 32, 115, 97, 121, 115, 32, 113, 40, 88, 41]⟩
theorem cl13_text : clText cl13.head cl13.body = tEx13 := by decide +kernel
theorem ld1_sz : AtSz (leadA gr1) := ⟨by decide, by decide, fun k => by rw [lead_arg]; exact at1_sz.2.2 k⟩
theorem lives13_does : Does Try.prog 5 [] (fun m => (bA true, m)) := by
  have c1 := pA_does eAl eP (.sl true 1 [.v (.string eX)]) at1 rfl (by kernel_rfl)
  have c2 := pA_does eCa eQ (.sl true 1 [.v (.string eX)]) at2 rfl (by kernel_rfl)
  have cG : Does Try.prog 15 [grA gr1] (fun m => (clsA cl13, m)) := gr13_does gr1 (by decide)
  have cT := text13_does cl13 at1_sz (fun a ha => by
    rcases List.mem_cons.1 ha with rfl | ha
    · exact ld1_sz
    · rw [List.mem_singleton] at ha; subst ha; exact at2_sz) (by decide)
  rw [cl13_text] at cT
  have ec : clsC cl13 = [.v (.string at1.says), .v (.string at1.pred), .v (.int .i64 at1.n), .v (.bool at1.a0.v), .v (.string at1.a0.name), .v (.bool at1.a1.v), .v (.string at1.a1.name), .v (.bool at1.a2.v), .v (.string at1.a2.name), .v (.bool at1.a3.v), .v (.string at1.a3.name), .sl false 2 ([leadA gr1, at2].flatMap atC)] := rfl
  have b2 := bld1A at2
  have eA := fun x y => bin_eqA' x y at1 at1
  simp only [pv_bind, decide_true] at eA
  refine does_of' Try.func5 rfl (by kernel_rfl) rfl Try.ntmps5 rfl rfl fun Q hQ => ?_
  repeat (first | refine tr_seq_k fun _ _ => ?_ | (refine tr_region ?_; simp only [go_sem, reduceCtorEq, Nat.reduceEqDiff, Nat.reduceLT, Nat.reduceLeDiff, Nat.reduceAdd, Nat.reduceMul, Nat.reduceSub, Nat.reduceBEq, ↓reduceIte, b2, ec, eA]) | (refine tr_draw (id := 2) follows 10000 [1, 6, 7] [0, 1, 2, 3, 4, 5, 6, 7, 8, 9, 10, 11, 12, 13, 14, 15, 16] (by kernel_rfl) ?_; simp only [go_sem, reduceCtorEq, Nat.reduceEqDiff, Nat.reduceLT, Nat.reduceLeDiff, Nat.reduceAdd, Nat.reduceMul, Nat.reduceSub, Nat.reduceBEq, ↓reduceIte, b2, ec, eA]) | (refine call_of (c1) ?_ ?_; (first | rfl | simp only [go_sem, reduceCtorEq, Nat.reduceEqDiff, Nat.reduceLT, Nat.reduceLeDiff, Nat.reduceAdd, Nat.reduceMul, Nat.reduceSub, Nat.reduceBEq, ↓reduceIte, b2, ec, eA, shut_col]); simp only [go_sem, reduceCtorEq, Nat.reduceEqDiff, Nat.reduceLT, Nat.reduceLeDiff, Nat.reduceAdd, Nat.reduceMul, Nat.reduceSub, Nat.reduceBEq, ↓reduceIte, b2, ec, eA]) | (refine call_of (c2) ?_ ?_; (first | rfl | simp only [go_sem, reduceCtorEq, Nat.reduceEqDiff, Nat.reduceLT, Nat.reduceLeDiff, Nat.reduceAdd, Nat.reduceMul, Nat.reduceSub, Nat.reduceBEq, ↓reduceIte, b2, ec, eA, shut_col]); simp only [go_sem, reduceCtorEq, Nat.reduceEqDiff, Nat.reduceLT, Nat.reduceLeDiff, Nat.reduceAdd, Nat.reduceMul, Nat.reduceSub, Nat.reduceBEq, ↓reduceIte, b2, ec, eA]) | (refine call_of (cG) ?_ ?_; (first | rfl | simp only [go_sem, reduceCtorEq, Nat.reduceEqDiff, Nat.reduceLT, Nat.reduceLeDiff, Nat.reduceAdd, Nat.reduceMul, Nat.reduceSub, Nat.reduceBEq, ↓reduceIte, b2, ec, eA, shut_col]); simp only [go_sem, reduceCtorEq, Nat.reduceEqDiff, Nat.reduceLT, Nat.reduceLeDiff, Nat.reduceAdd, Nat.reduceMul, Nat.reduceSub, Nat.reduceBEq, ↓reduceIte, b2, ec, eA]) | (refine call_of (cT) ?_ ?_; (first | rfl | simp only [go_sem, reduceCtorEq, Nat.reduceEqDiff, Nat.reduceLT, Nat.reduceLeDiff, Nat.reduceAdd, Nat.reduceMul, Nat.reduceSub, Nat.reduceBEq, ↓reduceIte, b2, ec, eA, shut_col]); simp only [go_sem, reduceCtorEq, Nat.reduceEqDiff, Nat.reduceLT, Nat.reduceLeDiff, Nat.reduceAdd, Nat.reduceMul, Nat.reduceSub, Nat.reduceBEq, ↓reduceIte, b2, ec, eA]) | refine k_of (by assumption) ?_ | (refine tr_ret ?_; try simp only [ex_seq_ret, ex_block_ret]))
  refine (hQ _ _ [bA true] ?_ (fun m => ?_)).2 <;> simp only [go_sem, reduceCtorEq, Nat.reduceEqDiff, Nat.reduceLT, Nat.reduceLeDiff, Nat.reduceAdd, Nat.reduceMul, Nat.reduceSub, Nat.reduceBEq, ↓reduceIte, Try.f5,]
  rfl
/-! ### light policies -/
structure Lt13 (p : Pol) : Prop where
  p12 : Pol12 p
  rn : p.rules.length ≤ 70
  gn : p.grants.length ≤ 70
  rules : ∀ r ∈ p.rules, AtSz r.head ∧ (∀ a ∈ r.body, AtSz a) ∧ r.body.length ≤ 9
  grants : ∀ g ∈ p.grants, g.tw.size ≤ 300 ∧ AtSz g.head ∧ (∀ a ∈ g.body, AtSz a) ∧ g.body.length ≤ 9
theorem light13 {p : Pol} (h : lightP p = true) : Lt13 p := by
  simp only [lightP, Bool.and_eq_true, Bool.not_eq_true', decide_eq_false_iff_not, List.all_eq_true] at h
  obtain ⟨⟨⟨⟨⟨⟨⟨⟨h1, h2⟩, h3⟩, h4⟩, h5⟩, h6⟩, h7⟩, h8⟩, h9⟩ := h
  have hl1 := lightTx_len h1
  have hr : ∀ r ∈ p.rules, AtSz r.head ∧ (∀ a ∈ r.body, AtSz a) ∧ r.body.length ≤ 9 := fun r hr => by
    have := h8 r hr
    simp only [gRu, Bool.and_eq_true] at this
    obtain ⟨q1, q2⟩ := lightAs_all this.2
    exact ⟨lightA_sz this.1, q1, by omega⟩
  have hg : ∀ g ∈ p.grants, g.tw.size ≤ 300 ∧ AtSz g.head ∧ (∀ a ∈ g.body, AtSz a) ∧ g.body.length ≤ 9 := fun g hg => by
    have := h9 g hg
    simp only [gGr, Bool.and_eq_true, Bool.not_eq_true', decide_eq_false_iff_not] at this
    obtain ⟨q1, q2⟩ := lightAs_all this.2.2
    exact ⟨by omega, lightA_sz this.2.1, q1, by omega⟩
  refine ⟨⟨by omega, by omega, by omega, fun c hc => ?_, by omega, by omega, fun r h => ?_, fun g h => ?_⟩, by omega, by omega, hr, hg⟩
  · have := h7 c hc
    simp only [gCl, Bool.and_eq_true, Bool.not_eq_true', decide_eq_false_iff_not] at this
    have a1 := lightTx_len this.2
    omega
  · have := (hr r h).2.2; omega
  · have := (hg g h).2.2.2; omega
theorem cls_sz {p : Pol} (h : Lt13 p) : ∀ c ∈ clausesF p, AtSz c.head ∧ (∀ a ∈ c.body, AtSz a) ∧ c.body.length ≤ 10 := fun c hc => by
  unfold clausesF at hc
  rw [List.mem_append] at hc
  rcases hc with hc | hc
  · obtain ⟨r, hr, rfl⟩ := List.mem_map.1 hc
    obtain ⟨q1, q2, q3⟩ := h.rules r hr
    exact ⟨q1, q2, Nat.le_trans q3 (by decide)⟩
  · obtain ⟨g, hg, rfl⟩ := List.mem_map.1 hc
    obtain ⟨q0, q1, q2, q3⟩ := h.grants g hg
    refine ⟨q1, fun a ha => ?_, by show (leadA g :: g.body).length ≤ 10; simp only [List.length_cons]; omega⟩
    rcases List.mem_cons.1 ha with rfl | ha
    · exact ⟨Nat.le_trans q0 (by decide), q1.2.1, fun k => by rw [lead_arg]; exact q1.2.2 k⟩
    · exact q2 a ha
theorem clauses13_does {p : Pol} (h : Lt13 p) : Does Try.prog 8 [poA p] (fun m => (.c (slC clsC (clausesF p).isEmpty (clausesF p)), m)) :=
  (clauses_does p (by have := h.rn; omega) (by have := h.gn; omega) (fun r hr => by have := (h.rules r hr).2.2; omega) (fun g hg => by have := (h.grants g hg).2.2.2; omega)).shut
theorem cls_ok {p : Pol} (hf : Formed p) : ∀ c ∈ clausesF p, pcheck3 c.head = 0 ∧ ∀ a ∈ c.body, pcheck3 a = 0 := fun c hc => by
  refine ⟨?_, fun a ha => (atom12_zero (clauses_body hf c hc a ha)).1⟩
  unfold clausesF at hc
  rw [List.mem_append] at hc
  rcases hc with hc | hc
  · obtain ⟨r, hr, rfl⟩ := List.mem_map.1 hc
    exact (atom12_zero (hf.rules r hr).1).1
  · obtain ⟨g, hg, rfl⟩ := List.mem_map.1 hc
    exact (atom12_zero (hf.grants g hg).2.1).1
theorem sum13 {p : Pol} (h : Lt13 p) : IntKind.i64.wrap ((p.rules.length : Int) + (p.grants.length : Int)) = (((clausesF p).length : Nat) : Int) := by
  have := h.rn
  have := h.gn
  rw [clauses_len, wrap_in (by omega)]
  omega
theorem texts13_does (p : Pol) : Does Try.prog 4 [poA p] (fun m => (bA true, m)) := by
  have c0 := lives13_does
  have cL := lightP_does p
  cases h1 : lightP p with
  | false =>
    rw [h1] at cL
    refine does_of' Try.func4 rfl (by kernel_rfl) rfl Try.ntmps4 rfl rfl fun Q hQ => ?_
    repeat (first | refine tr_seq_k fun _ _ => ?_ | (refine tr_region ?_; simp only [go_sem, reduceCtorEq, Nat.reduceEqDiff, Nat.reduceLT, Nat.reduceLeDiff, Nat.reduceAdd, Nat.reduceMul, Nat.reduceSub, Nat.reduceBEq, ↓reduceIte]) | (refine call_of (c0) ?_ ?_; (first | rfl | simp only [go_sem, reduceCtorEq, Nat.reduceEqDiff, Nat.reduceLT, Nat.reduceLeDiff, Nat.reduceAdd, Nat.reduceMul, Nat.reduceSub, Nat.reduceBEq, ↓reduceIte, shut_col]); simp only [go_sem, reduceCtorEq, Nat.reduceEqDiff, Nat.reduceLT, Nat.reduceLeDiff, Nat.reduceAdd, Nat.reduceMul, Nat.reduceSub, Nat.reduceBEq, ↓reduceIte]) | refine k_of (by assumption) ?_)
    refine tr_cond rfl (fun ht => ?_) (fun hf => ?_)
    · cases ht
    · repeat (first | refine tr_seq_k fun _ _ => ?_ | (refine tr_region ?_; simp only [go_sem, reduceCtorEq, Nat.reduceEqDiff, Nat.reduceLT, Nat.reduceLeDiff, Nat.reduceAdd, Nat.reduceMul, Nat.reduceSub, Nat.reduceBEq, ↓reduceIte]) | (refine call_of (cL) ?_ ?_; (first | rfl | simp only [go_sem, reduceCtorEq, Nat.reduceEqDiff, Nat.reduceLT, Nat.reduceLeDiff, Nat.reduceAdd, Nat.reduceMul, Nat.reduceSub, Nat.reduceBEq, ↓reduceIte, shut_col]); simp only [go_sem, reduceCtorEq, Nat.reduceEqDiff, Nat.reduceLT, Nat.reduceLeDiff, Nat.reduceAdd, Nat.reduceMul, Nat.reduceSub, Nat.reduceBEq, ↓reduceIte]) | refine k_of (by assumption) ?_ | (refine tr_skip ?_; try simp only [ex_seq, ex_block]))
      refine tr_cond rfl (fun ht => ?_) (fun hf => ?_)
      · repeat (first | refine tr_seq_k fun _ _ => ?_ | (refine tr_region ?_; simp only [go_sem, reduceCtorEq, Nat.reduceEqDiff, Nat.reduceLT, Nat.reduceLeDiff, Nat.reduceAdd, Nat.reduceMul, Nat.reduceSub, Nat.reduceBEq, ↓reduceIte]) | refine k_of (by assumption) ?_ | (refine tr_ret ?_; try simp only [ex_seq_ret, ex_block_ret]))
        refine (hQ _ _ [bA true] ?_ (fun m => ?_)).2 <;> simp only [go_sem, reduceCtorEq, Nat.reduceEqDiff, Nat.reduceLT, Nat.reduceLeDiff, Nat.reduceAdd, Nat.reduceMul, Nat.reduceSub, Nat.reduceBEq, ↓reduceIte, Try.f4,]
      · cases hf
  | true =>
    rw [h1] at cL
    have hL := light13 h1
    have cK := check12_does p hL.p12 (fun r hr => (hL.rules r hr).1)
    cases h2 : decide (check12 p = 0) with
    | false =>
      refine does_of' Try.func4 rfl (by kernel_rfl) rfl Try.ntmps4 rfl rfl fun Q hQ => ?_
      repeat (first | refine tr_seq_k fun _ _ => ?_ | (refine tr_region ?_; simp only [go_sem, reduceCtorEq, Nat.reduceEqDiff, Nat.reduceLT, Nat.reduceLeDiff, Nat.reduceAdd, Nat.reduceMul, Nat.reduceSub, Nat.reduceBEq, ↓reduceIte]) | (refine call_of (c0) ?_ ?_; (first | rfl | simp only [go_sem, reduceCtorEq, Nat.reduceEqDiff, Nat.reduceLT, Nat.reduceLeDiff, Nat.reduceAdd, Nat.reduceMul, Nat.reduceSub, Nat.reduceBEq, ↓reduceIte, shut_col]); simp only [go_sem, reduceCtorEq, Nat.reduceEqDiff, Nat.reduceLT, Nat.reduceLeDiff, Nat.reduceAdd, Nat.reduceMul, Nat.reduceSub, Nat.reduceBEq, ↓reduceIte]) | refine k_of (by assumption) ?_)
      refine tr_cond rfl (fun ht => ?_) (fun hf => ?_)
      · cases ht
      · repeat (first | refine tr_seq_k fun _ _ => ?_ | (refine tr_region ?_; simp only [go_sem, reduceCtorEq, Nat.reduceEqDiff, Nat.reduceLT, Nat.reduceLeDiff, Nat.reduceAdd, Nat.reduceMul, Nat.reduceSub, Nat.reduceBEq, ↓reduceIte, h2]) | (refine call_of (cL) ?_ ?_; (first | rfl | simp only [go_sem, reduceCtorEq, Nat.reduceEqDiff, Nat.reduceLT, Nat.reduceLeDiff, Nat.reduceAdd, Nat.reduceMul, Nat.reduceSub, Nat.reduceBEq, ↓reduceIte, h2, shut_col]); simp only [go_sem, reduceCtorEq, Nat.reduceEqDiff, Nat.reduceLT, Nat.reduceLeDiff, Nat.reduceAdd, Nat.reduceMul, Nat.reduceSub, Nat.reduceBEq, ↓reduceIte, h2]) | (refine call_of (cK) ?_ ?_; (first | rfl | simp only [go_sem, reduceCtorEq, Nat.reduceEqDiff, Nat.reduceLT, Nat.reduceLeDiff, Nat.reduceAdd, Nat.reduceMul, Nat.reduceSub, Nat.reduceBEq, ↓reduceIte, h2, shut_col]); simp only [go_sem, reduceCtorEq, Nat.reduceEqDiff, Nat.reduceLT, Nat.reduceLeDiff, Nat.reduceAdd, Nat.reduceMul, Nat.reduceSub, Nat.reduceBEq, ↓reduceIte, h2]) | refine k_of (by assumption) ?_ | (refine tr_skip ?_; try simp only [ex_seq, ex_block]))
        refine tr_cond rfl (fun ht => ?_) (fun hf => ?_)
        · repeat (first | refine tr_seq_k fun _ _ => ?_ | (refine tr_region ?_; simp only [go_sem, reduceCtorEq, Nat.reduceEqDiff, Nat.reduceLT, Nat.reduceLeDiff, Nat.reduceAdd, Nat.reduceMul, Nat.reduceSub, Nat.reduceBEq, ↓reduceIte]) | refine k_of (by assumption) ?_ | (refine tr_ret ?_; try simp only [ex_seq_ret, ex_block_ret]))
          refine (hQ _ _ [bA true] ?_ (fun m => ?_)).2 <;> simp only [go_sem, reduceCtorEq, Nat.reduceEqDiff, Nat.reduceLT, Nat.reduceLeDiff, Nat.reduceAdd, Nat.reduceMul, Nat.reduceSub, Nat.reduceBEq, ↓reduceIte, Try.f4,]
        · cases hf
    | true =>
      have hF := check12_formed (of_decide_eq_true h2)
      have cC := clauses13_does hL
      have hsz := cls_sz hL
      have hsum := sum13 hL
      have hlen := clauses_len p
      have hll : (clausesF p).length ≤ 140 := by rw [hlen]; have := hL.rn; have := hL.gn; omega
      have hall := fun c hc => cls_ok hF (p := p) c hc
      generalize hC : clausesF p = C at *
      have eeq : ((C.length : Int) == (C.length : Int)) = true := by rw [beq_self_eq_true]
      refine does_of' Try.func4 rfl (by kernel_rfl) rfl Try.ntmps4 rfl rfl fun Q hQ => ?_
      repeat (first | refine tr_seq_k fun _ _ => ?_ | (refine tr_region ?_; simp only [go_sem, reduceCtorEq, Nat.reduceEqDiff, Nat.reduceLT, Nat.reduceLeDiff, Nat.reduceAdd, Nat.reduceMul, Nat.reduceSub, Nat.reduceBEq, ↓reduceIte]) | (refine call_of (c0) ?_ ?_; (first | rfl | simp only [go_sem, reduceCtorEq, Nat.reduceEqDiff, Nat.reduceLT, Nat.reduceLeDiff, Nat.reduceAdd, Nat.reduceMul, Nat.reduceSub, Nat.reduceBEq, ↓reduceIte, shut_col]); simp only [go_sem, reduceCtorEq, Nat.reduceEqDiff, Nat.reduceLT, Nat.reduceLeDiff, Nat.reduceAdd, Nat.reduceMul, Nat.reduceSub, Nat.reduceBEq, ↓reduceIte]) | refine k_of (by assumption) ?_)
      refine tr_cond rfl (fun ht => ?_) (fun hf => ?_)
      · cases ht
      · repeat (first | refine tr_seq_k fun _ _ => ?_ | (refine tr_region ?_; simp only [go_sem, reduceCtorEq, Nat.reduceEqDiff, Nat.reduceLT, Nat.reduceLeDiff, Nat.reduceAdd, Nat.reduceMul, Nat.reduceSub, Nat.reduceBEq, ↓reduceIte, h2]) | (refine call_of (cL) ?_ ?_; (first | rfl | simp only [go_sem, reduceCtorEq, Nat.reduceEqDiff, Nat.reduceLT, Nat.reduceLeDiff, Nat.reduceAdd, Nat.reduceMul, Nat.reduceSub, Nat.reduceBEq, ↓reduceIte, h2, shut_col]); simp only [go_sem, reduceCtorEq, Nat.reduceEqDiff, Nat.reduceLT, Nat.reduceLeDiff, Nat.reduceAdd, Nat.reduceMul, Nat.reduceSub, Nat.reduceBEq, ↓reduceIte, h2]) | (refine call_of (cK) ?_ ?_; (first | rfl | simp only [go_sem, reduceCtorEq, Nat.reduceEqDiff, Nat.reduceLT, Nat.reduceLeDiff, Nat.reduceAdd, Nat.reduceMul, Nat.reduceSub, Nat.reduceBEq, ↓reduceIte, h2, shut_col]); simp only [go_sem, reduceCtorEq, Nat.reduceEqDiff, Nat.reduceLT, Nat.reduceLeDiff, Nat.reduceAdd, Nat.reduceMul, Nat.reduceSub, Nat.reduceBEq, ↓reduceIte, h2]) | refine k_of (by assumption) ?_ | (refine tr_skip ?_; try simp only [ex_seq, ex_block]))
        refine tr_cond rfl (fun ht => ?_) (fun hf => ?_)
        · cases ht
        · repeat (first | refine tr_seq_k fun _ _ => ?_ | (refine tr_region ?_; simp only [go_sem, reduceCtorEq, Nat.reduceEqDiff, Nat.reduceLT, Nat.reduceLeDiff, Nat.reduceAdd, Nat.reduceMul, Nat.reduceSub, Nat.reduceBEq, ↓reduceIte]) | (refine call_of (cC) ?_ ?_; (first | rfl | simp only [go_sem, reduceCtorEq, Nat.reduceEqDiff, Nat.reduceLT, Nat.reduceLeDiff, Nat.reduceAdd, Nat.reduceMul, Nat.reduceSub, Nat.reduceBEq, ↓reduceIte, shut_col]); simp only [go_sem, reduceCtorEq, Nat.reduceEqDiff, Nat.reduceLT, Nat.reduceLeDiff, Nat.reduceAdd, Nat.reduceMul, Nat.reduceSub, Nat.reduceBEq, ↓reduceIte]) | refine k_of (by assumption) ?_ | refine tr_block ?_ | (refine tr_skip ?_; try simp only [ex_seq, ex_block]))
          refine tr_loop_k (σ := Nat) (fun k => [(1, .ptr 0 0), (3, .c (slC clsC C.isEmpty C)), (4, iA k)]) (fun _ => ⟨[⟨false, [.c (slC stC p.e1 p.prin), .c (slC prC p.e2 p.preds), .c (slC clC p.e3 p.clears), iA p.quota, iA p.budget, .c (slC ruC p.e4 p.rules), .c (slC grC p.e5 p.grants)]⟩], []⟩) (fun k => k ≤ C.length) (fun k => C.length - k) 0 (Nat.zero_le _) ⟨rfl, rfl, rfl, trivial⟩ rfl ?_
          rintro k hk K hK
          by_cases hkl : k < C.length
          · have q1 : decide ((k : Int) < (C.length : Nat)) = true := decide_eq_true (by omega)
            have ws := wrap_succ (show k ≤ 1000000000 by omega)
            have ix := idxCl (ex := C.isEmpty) hkl
            obtain ⟨s1, s2, s3⟩ := hsz _ (List.getElem_mem hkl)
            obtain ⟨g1, g2⟩ := hall _ (List.getElem_mem hkl)
            have cT := text13_does C[k] s1 s2 (by omega)
            generalize C[k] = x at *
            have th := ptext_size s1
            have tb : (pbody x.body).size ≤ 100000100 := Nat.le_trans (pbodyK_size s2 _) (Nat.mul_le_mul_right _ s3)
            have tz : (clText x.head x.body).size ≤ 200000000 := by unfold clText; simp only [ByteArray.size_append]; omega
            have zd : dotB.size = 1 := rfl
            have a1 := sadd (a := clText x.head x.body) (b := dotB) (n := 300000000) (by omega) (by decide)
            have cP := parsePol_does (clText x.head x.body ++ dotB) (by simp only [ByteArray.size_append]; omega)
            have ta : (clText x.head x.body ++ dotB).size ≤ 300000000 := by simp only [ByteArray.size_append]; omega
            have hb : (clText x.head x.body ++ dotB).size ≤ 65536 → polParse (clText x.head x.body ++ dotB) = (polOf (rulePp x.head x.body), 0, 0) := fun h => clause_back (h := x.head) (b := x.body) g1 g2 h
            generalize clText x.head x.body ++ dotB = T at *
            cases q2 : decide ((T.size : Int) ≤ 65536) with
            | false =>
              clear hb
              generalize polParse T = r at *
              obtain ⟨rp, r1, r2⟩ := r
              repeat (first | refine tr_seq_k fun _ _ => ?_ | (refine tr_region ?_; simp only [go_sem, reduceCtorEq, Nat.reduceEqDiff, Nat.reduceLT, Nat.reduceLeDiff, Nat.reduceAdd, Nat.reduceMul, Nat.reduceSub, Nat.reduceBEq, ↓reduceIte, q1]) | refine k_of (by assumption) ?_)
              refine tr_cond rfl (fun ht => ?_) (fun hf => ?_)
              · dsimp only at cP
                repeat (first | refine tr_seq_k fun _ _ => ?_ | (refine tr_region ?_; simp only [go_sem, reduceCtorEq, Nat.reduceEqDiff, Nat.reduceLT, Nat.reduceLeDiff, Nat.reduceAdd, Nat.reduceMul, Nat.reduceSub, Nat.reduceBEq, ↓reduceIte, ix, clsC, a1, q2]) | (refine tr_draw (id := 11) follows 10000 [33] [0, 1, 2, 3, 4, 5, 6, 7, 8, 9, 10, 11, 12, 13, 14, 15, 16, 17, 18, 19, 20, 21, 22, 23, 24, 25, 26, 27, 28, 29, 30, 31, 32, 33, 34, 35, 36] (by kernel_rfl) ?_; simp only [go_sem, reduceCtorEq, Nat.reduceEqDiff, Nat.reduceLT, Nat.reduceLeDiff, Nat.reduceAdd, Nat.reduceMul, Nat.reduceSub, Nat.reduceBEq, ↓reduceIte, ix, clsC, a1, q2]) | (refine call_of (cT) ?_ ?_; (first | rfl | simp only [go_sem, reduceCtorEq, Nat.reduceEqDiff, Nat.reduceLT, Nat.reduceLeDiff, Nat.reduceAdd, Nat.reduceMul, Nat.reduceSub, Nat.reduceBEq, ↓reduceIte, ix, clsC, a1, q2, shut_col]); simp only [go_sem, reduceCtorEq, Nat.reduceEqDiff, Nat.reduceLT, Nat.reduceLeDiff, Nat.reduceAdd, Nat.reduceMul, Nat.reduceSub, Nat.reduceBEq, ↓reduceIte, ix, clsC, a1, q2]) | (refine call_of (cP) ?_ ?_; (first | rfl | simp only [go_sem, reduceCtorEq, Nat.reduceEqDiff, Nat.reduceLT, Nat.reduceLeDiff, Nat.reduceAdd, Nat.reduceMul, Nat.reduceSub, Nat.reduceBEq, ↓reduceIte, ix, clsC, a1, q2, shut_col]); simp only [go_sem, reduceCtorEq, Nat.reduceEqDiff, Nat.reduceLT, Nat.reduceLeDiff, Nat.reduceAdd, Nat.reduceMul, Nat.reduceSub, Nat.reduceBEq, ↓reduceIte, ix, clsC, a1, q2]) | refine k_of (by assumption) ?_ | refine tr_block ?_ | (refine tr_skip ?_; try simp only [ex_seq, ex_block]))
                refine tr_cond rfl (fun ht => ?_) (fun hf => ?_)
                · cases ht
                · repeat (first | (refine tr_region ?_; simp only [go_sem, reduceCtorEq, Nat.reduceEqDiff, Nat.reduceLT, Nat.reduceLeDiff, Nat.reduceAdd, Nat.reduceMul, Nat.reduceSub, Nat.reduceBEq, ↓reduceIte, ws]) | refine k_of (by assumption) ?_ | (refine tr_skip ?_; try simp only [ex_seq, ex_block]))
                  exact hK (k + 1) _ _ hkl ⟨⟨rfl, rfl, rfl, trivial⟩, Keep.of (eh := [_]) (ew := []) rfl rfl, rfl, rfl, Nat.le_refl _, Nat.le_refl _⟩ (by omega)
              · cases hf
            | true =>
              have hp : polOf (rulePp x.head x.body) = ⟨true, [], true, [], true, [], 0, 0, false, [⟨x.head, x.body.isEmpty, x.body⟩], true, []⟩ := rfl
              rw [hb (by have := of_decide_eq_true q2; omega)] at cP
              dsimp only at cP
              rw [hp] at cP
              have cS := sameRule_does x.head x.head x.body x.body x.body.isEmpty x.ex (by omega)
              rw [decide_eq_true rfl] at cS
              have i0 : aIndexAddr Try.prog 25 (.c (slC ruC false [⟨x.head, x.body.isEmpty, x.body⟩])) (.c (.v (.int .i64 0))) = some (.cptr (ruC ⟨x.head, x.body.isEmpty, x.body⟩ ++ [])) := idxRu (ex := false) (l := [⟨x.head, x.body.isEmpty, x.body⟩]) (k := 0) (by simp)
              have d11 : decide (((1 : Nat) : Int) = 1) = true := by decide
              repeat (first | refine tr_seq_k fun _ _ => ?_ | (refine tr_region ?_; simp only [go_sem, reduceCtorEq, Nat.reduceEqDiff, Nat.reduceLT, Nat.reduceLeDiff, Nat.reduceAdd, Nat.reduceMul, Nat.reduceSub, Nat.reduceBEq, ↓reduceIte, q1]) | refine k_of (by assumption) ?_)
              refine tr_cond rfl (fun ht => ?_) (fun hf => ?_)
              · repeat (first | refine tr_seq_k fun _ _ => ?_ | (refine tr_region ?_; simp only [go_sem, reduceCtorEq, Nat.reduceEqDiff, Nat.reduceLT, Nat.reduceLeDiff, Nat.reduceAdd, Nat.reduceMul, Nat.reduceSub, Nat.reduceBEq, ↓reduceIte, ix, clsC, a1, q2, i0, d11]) | (refine tr_draw (id := 11) follows 10000 [33] [0, 1, 2, 3, 4, 5, 6, 7, 8, 9, 10, 11, 12, 13, 14, 15, 16, 17, 18, 19, 20, 21, 22, 23, 24, 25, 26, 27, 28, 29, 30, 31, 32, 33, 34, 35, 36] (by kernel_rfl) ?_; simp only [go_sem, reduceCtorEq, Nat.reduceEqDiff, Nat.reduceLT, Nat.reduceLeDiff, Nat.reduceAdd, Nat.reduceMul, Nat.reduceSub, Nat.reduceBEq, ↓reduceIte, ix, clsC, a1, q2, i0, d11]) | (refine call_of (cT) ?_ ?_; (first | rfl | simp only [go_sem, reduceCtorEq, Nat.reduceEqDiff, Nat.reduceLT, Nat.reduceLeDiff, Nat.reduceAdd, Nat.reduceMul, Nat.reduceSub, Nat.reduceBEq, ↓reduceIte, ix, clsC, a1, q2, i0, d11, shut_col]); simp only [go_sem, reduceCtorEq, Nat.reduceEqDiff, Nat.reduceLT, Nat.reduceLeDiff, Nat.reduceAdd, Nat.reduceMul, Nat.reduceSub, Nat.reduceBEq, ↓reduceIte, ix, clsC, a1, q2, i0, d11]) | (refine call_of (cP) ?_ ?_; (first | rfl | simp only [go_sem, reduceCtorEq, Nat.reduceEqDiff, Nat.reduceLT, Nat.reduceLeDiff, Nat.reduceAdd, Nat.reduceMul, Nat.reduceSub, Nat.reduceBEq, ↓reduceIte, ix, clsC, a1, q2, i0, d11, shut_col]); simp only [go_sem, reduceCtorEq, Nat.reduceEqDiff, Nat.reduceLT, Nat.reduceLeDiff, Nat.reduceAdd, Nat.reduceMul, Nat.reduceSub, Nat.reduceBEq, ↓reduceIte, ix, clsC, a1, q2, i0, d11]) | (refine call_of (cS) ?_ ?_; (first | rfl | simp only [go_sem, reduceCtorEq, Nat.reduceEqDiff, Nat.reduceLT, Nat.reduceLeDiff, Nat.reduceAdd, Nat.reduceMul, Nat.reduceSub, Nat.reduceBEq, ↓reduceIte, ix, clsC, a1, q2, i0, d11, shut_col]); simp only [go_sem, reduceCtorEq, Nat.reduceEqDiff, Nat.reduceLT, Nat.reduceLeDiff, Nat.reduceAdd, Nat.reduceMul, Nat.reduceSub, Nat.reduceBEq, ↓reduceIte, ix, clsC, a1, q2, i0, d11]) | refine k_of (by assumption) ?_ | refine tr_block ?_ | (refine tr_skip ?_; try simp only [ex_seq, ex_block]))
                refine tr_cond rfl (fun ht => ?_) (fun hf => ?_)
                · cases ht
                · repeat (first | (refine tr_region ?_; simp only [go_sem, reduceCtorEq, Nat.reduceEqDiff, Nat.reduceLT, Nat.reduceLeDiff, Nat.reduceAdd, Nat.reduceMul, Nat.reduceSub, Nat.reduceBEq, ↓reduceIte, ws]) | refine k_of (by assumption) ?_ | (refine tr_skip ?_; try simp only [ex_seq, ex_block]))
                  exact hK (k + 1) _ _ hkl ⟨⟨rfl, rfl, rfl, trivial⟩, Keep.of (eh := [_]) (ew := []) rfl rfl, rfl, rfl, Nat.le_refl _, Nat.le_refl _⟩ (by omega)
              · cases hf
          · have q1 : decide ((k : Int) < (C.length : Nat)) = false := decide_eq_false (by omega)
            repeat (first | refine tr_seq_k fun _ _ => ?_ | (refine tr_region ?_; simp only [go_sem, reduceCtorEq, Nat.reduceEqDiff, Nat.reduceLT, Nat.reduceLeDiff, Nat.reduceAdd, Nat.reduceMul, Nat.reduceSub, Nat.reduceBEq, ↓reduceIte, q1]) | refine k_of (by assumption) ?_)
            refine tr_cond rfl (fun ht => ?_) (fun hf => ?_)
            · cases ht
            · repeat (first | refine tr_seq_k fun _ _ => ?_ | (refine tr_region ?_; simp only [go_sem, reduceCtorEq, Nat.reduceEqDiff, Nat.reduceLT, Nat.reduceLeDiff, Nat.reduceAdd, Nat.reduceMul, Nat.reduceSub, Nat.reduceBEq, ↓reduceIte, hsum, eeq]) | refine k_of (by assumption) ?_ | (refine tr_exit ?_; try simp only [ex_seq_exit, ex_block_exit, Nat.reduceEqDiff, if_true, if_false, ex_seq, ex_block, reduceCtorEq, ↓reduceIte]) | (refine tr_ret ?_; try simp only [ex_seq_ret, ex_block_ret]))
              refine (hQ _ _ [bA true] ?_ (fun m => ?_)).2 <;> simp only [go_sem, reduceCtorEq, Nat.reduceEqDiff, Nat.reduceLT, Nat.reduceLeDiff, Nat.reduceAdd, Nat.reduceMul, Nat.reduceSub, Nat.reduceBEq, ↓reduceIte, Try.f4,]
end Go.Proofs.Ytinbfakpjnnagaa
namespace Go.Vs.Ab
open Go.RowKit Go.Maps Go.ChangeShapes Go.WideShapes Go.Deep
theorem Reps.nil {X : Mem} : Reps X [] [] := ⟨rfl, fun i c x h => by simp at h⟩
theorem Reps.cons {X : Mem} {c : AV} {v : Value} {cs : List AV} {vs : List Value} (h : Rep X c v) (k : Reps X cs vs) : Reps X (c :: cs) (v :: vs) :=
  ⟨by simp [k.1], fun i d x h1 h2 => by
    cases i with
    | zero => simp at h1 h2; subst h1 h2; exact h
    | succ i => exact k.2 i d x (by simpa using h1) (by simpa using h2)⟩
theorem RepCs.nil {C : Nat → Nat → Option Value} : RepCs C [] [] := ⟨rfl, fun i c x h => by simp at h⟩
theorem RepCs.cons {C : Nat → Nat → Option Value} {c : CV} {v : Value} {cs : List CV} {vs : List Value} (h : RepC C c v) (k : RepCs C cs vs) : RepCs C (c :: cs) (v :: vs) :=
  ⟨by simp [k.1], fun i d x h1 h2 => by
    cases i with
    | zero => simp at h1 h2; subst h1 h2; exact h
    | succ i => exact k.2 i d x (by simpa using h1) (by simpa using h2)⟩
theorem RepCs.append {C : Nat → Nat → Option Value} {a b : List CV} {x y : List Value} (h : RepCs C a x) (k : RepCs C b y) : RepCs C (a ++ b) (x ++ y) := repcs_append h k
def Dec {T : Type} (d : Nat) (w : World) (ks : List Sh) (enc : T → List CV) (good : T → Prop) : Prop := ∀ cs, all2 (okc d w) ks cs → ∃ x, RepCs (all w).cell (enc x) cs ∧ good x
theorem dec_str {d : Nat} {w : World} {v : Value} (h : okc d w .str v) : ∃ s : ByteArray, RepC (all w).cell (.v (.string s)) v ∧ s.size ≤ maxLen := by
  cases d with
  | zero => exact h.elim
  | succ d => obtain ⟨s, rfl, hs⟩ := h; exact ⟨s, .v rfl, hs⟩
theorem dec_int {d : Nat} {w : World} {v : Value} (h : okc d w .int v) : ∃ n : Int, RepC (all w).cell (.v (.int .i64 n)) v ∧ (Lit.int .i64 n).wf = true := by
  cases d with
  | zero => exact h.elim
  | succ d => obtain ⟨s, rfl, hs⟩ := h; exact ⟨s, .v rfl, hs⟩
theorem dec_bool {d : Nat} {w : World} {v : Value} (h : okc d w .bool v) : ∃ b : Bool, RepC (all w).cell (.v (.bool b)) v := by
  cases d with
  | zero => exact h.elim
  | succ d => obtain ⟨s, rfl⟩ := h; exact ⟨s, .v rfl⟩
theorem rowsC_of {T : Type} {C : Nat → Nat → Option Value} (enc : T → List CV) (good : T → Prop) (k : Nat) : ∀ (n : Nat) (cs : List Value), cs.length = n * k →
    (∀ i, i < n → ∃ x, RepCs C (enc x) ((cs.drop (i * k)).take k) ∧ good x) → ∃ xs : List T, xs.length = n ∧ RepCs C (xs.flatMap enc) cs ∧ ∀ x ∈ xs, good x
  | 0, cs, hl, _ => by
    have : cs = [] := by simpa using hl
    subst this
    exact ⟨[], rfl, RepCs.nil, by simp⟩
  | n + 1, cs, hl, h => by
    obtain ⟨x, hx, hg⟩ := h 0 (by omega)
    rw [Nat.zero_mul, List.drop_zero] at hx
    obtain ⟨xs, h1, h2, h3⟩ := rowsC_of enc good k n (cs.drop k) (by rw [List.length_drop, hl, Nat.add_mul]; omega) (fun i hi => by
      obtain ⟨y, hy, hgy⟩ := h (i + 1) (by omega)
      refine ⟨y, ?_, hgy⟩
      rw [List.drop_drop]
      rwa [Nat.add_mul, Nat.one_mul, Nat.add_comm] at hy)
    refine ⟨x :: xs, by simp [h1], ?_, ?_⟩
    · rw [List.flatMap_cons]
      have := hx.append h2
      rwa [List.take_append_drop] at this
    · intro y hy
      rcases List.mem_cons.1 hy with rfl | hy
      · exact hg
      · exact h3 y hy
theorem dec_sl {T : Type} {d : Nat} {w : World} {es : List Sh} {enc : T → List CV} {good : T → Prop} (hdec : Dec d w es enc good) {v : Value} (h : okc (d + 1) w (.sl es) v) :
    ∃ l : List T, RepC (all w).cell (.sl false l.length (l.flatMap enc)) v ∧ ∀ x ∈ l, good x := by
  obtain ⟨n, cs, h1, h2⟩ := h
  obtain ⟨l, h3, h4, h5⟩ := rowsC_of (C := (all w).cell) enc good es.length n cs h1.1 (fun i hi => hdec _ (h2 i hi))
  refine ⟨l, ?_, h5⟩
  rcases h1.2 with ⟨rfl, h0⟩ | ⟨a, cap, rfl, g3, g4, g5⟩
  · have : l = [] := List.eq_nil_of_length_eq_zero (by omega)
    subst this
    exact .sl (xs := []) rfl (fun i c x h => by simp at h) (Nat.le_refl _) ⟨Nat.zero_le _, fun _ => rfl⟩ (fun e => by cases e) (fun j x hx => by simp at hx)
  · rw [h3]
    refine .sl (xs := cs) h4.1 h4.2 g3 ⟨g4, fun e => by cases e⟩ (fun e => by cases e) (fun j x hx => ?_)
    have h6 := g5 j x hx
    have hl := (List.getElem?_eq_some_iff.1 hx).1
    have h7 := g5 0 (cs[0]'(by omega)) (by simp)
    have hsp := spot_of_add h7
    obtain ⟨g, off, sp⟩ := a
    simp only at hsp
    subst hsp
    rw [add_none] at h6
    exact ⟨g, off, rfl, h6⟩
section
variable {H : Type} {enc : TypeId × Value → H} {P : Program} {w : World} {base b0 : Nat} {spare : Nat → Bool} {held : Bool} {r : Reach} {d : Nat} {t : TypeId} {v : Value} {x : DataW H} {ps : List MemPlace}
theorem open_agg {T : Type} {encT : T → List CV} {good : T → Prop} {fs : Array Field} {ks : List Sh} (ht : P.underlying t = some (.struct fs)) (hs : shapeOf P d t = some ks) (hdec : Dec d w ks encT good) (hval : Value.okWide P w r b0 t v) (hd : DataW.Trod enc P w base spare held t v x ps) :
    ∃ a : T, Rep (all w) (.agg (encT a)) v ∧ good a := by
  obtain ⟨cs, rfl, h⟩ := arg_struct ht hs hval hd
  obtain ⟨a, h1, h2⟩ := hdec cs h
  exact ⟨a, .agg h1, h2⟩
end
def AtOk (a : Atm) : Prop := a.says.size ≤ maxLen ∧ a.pred.size ≤ maxLen ∧ (Lit.int .i64 a.n).wf = true ∧ a.a0.name.size ≤ maxLen ∧ a.a1.name.size ≤ maxLen ∧ a.a2.name.size ≤ maxLen ∧ a.a3.name.size ≤ maxLen
theorem stD {d : Nat} {w : World} : Dec d w [.str] stC (fun s => s.size ≤ maxLen) := fun cs t0 => by
  obtain ⟨c0, r0, rfl, h0, t1⟩ := all2_cons t0
  obtain rfl := all2_nil t1
  obtain ⟨x0, e0, g0⟩ := dec_str h0
  exact ⟨x0, .cons e0 .nil, g0⟩
theorem atD {d : Nat} {w : World} : Dec d w [.str, .str, .int, .bool, .str, .bool, .str, .bool, .str, .bool, .str] atC AtOk := fun cs t0 => by
  obtain ⟨c0, r0, rfl, h0, t1⟩ := all2_cons t0
  obtain ⟨c1, r1, rfl, h1, t2⟩ := all2_cons t1
  obtain ⟨c2, r2, rfl, h2, t3⟩ := all2_cons t2
  obtain ⟨c3, r3, rfl, h3, t4⟩ := all2_cons t3
  obtain ⟨c4, r4, rfl, h4, t5⟩ := all2_cons t4
  obtain ⟨c5, r5, rfl, h5, t6⟩ := all2_cons t5
  obtain ⟨c6, r6, rfl, h6, t7⟩ := all2_cons t6
  obtain ⟨c7, r7, rfl, h7, t8⟩ := all2_cons t7
  obtain ⟨c8, r8, rfl, h8, t9⟩ := all2_cons t8
  obtain ⟨c9, r9, rfl, h9, t10⟩ := all2_cons t9
  obtain ⟨c10, r10, rfl, h10, t11⟩ := all2_cons t10
  obtain rfl := all2_nil t11
  obtain ⟨x0, e0, g0⟩ := dec_str h0
  obtain ⟨x1, e1, g1⟩ := dec_str h1
  obtain ⟨x2, e2, g2⟩ := dec_int h2
  obtain ⟨x3, e3⟩ := dec_bool h3
  obtain ⟨x4, e4, g4⟩ := dec_str h4
  obtain ⟨x5, e5⟩ := dec_bool h5
  obtain ⟨x6, e6, g6⟩ := dec_str h6
  obtain ⟨x7, e7⟩ := dec_bool h7
  obtain ⟨x8, e8, g8⟩ := dec_str h8
  obtain ⟨x9, e9⟩ := dec_bool h9
  obtain ⟨x10, e10, g10⟩ := dec_str h10
  exact ⟨⟨x0, x1, x2, ⟨x3, x4⟩, ⟨x5, x6⟩, ⟨x7, x8⟩, ⟨x9, x10⟩⟩, .cons e0 (.cons e1 (.cons e2 (.cons e3 (.cons e4 (.cons e5 (.cons e6 (.cons e7 (.cons e8 (.cons e9 (.cons e10 .nil)))))))))), g0, g1, g2, g4, g6, g8, g10⟩
end Go.Vs.Ab
namespace Go.Vs.Ab
open Go.RowKit Go.Maps Go.ChangeShapes Go.WideShapes Go.Deep
section
variable {H : Type} {enc : TypeId × Value → H} {P : Program} {w : World} {base : Nat} {spare : Nat → Bool} {held : Bool}
end
section
variable {H : Type} {enc : TypeId × Value → H} {P : Program} {w : World} {base b0 : Nat} {spare : Nat → Bool} {held : Bool} {r : Reach} {d : Nat} {t : TypeId} {v : Value} {x : DataW H} {ps : List MemPlace}
end
theorem all2_split {α β : Type} {R : α → β → Prop} : ∀ {a b : List α} {cs : List β}, all2 R (a ++ b) cs → ∃ x y, cs = x ++ y ∧ all2 R a x ∧ all2 R b y
  | [], b, cs, h => ⟨[], cs, rfl, trivial, h⟩
  | k :: a, b, cs, h => by
    obtain ⟨c, r, rfl, h0, h1⟩ := all2_cons (show all2 R (k :: (a ++ b)) cs from h)
    obtain ⟨x, y, rfl, h2, h3⟩ := all2_split h1
    exact ⟨c :: x, y, rfl, ⟨h0, h2⟩, h3⟩
def atSh : List Sh := [.str, .str, .int, .bool, .str, .bool, .str, .bool, .str, .bool, .str]
end Go.Vs.Ab
namespace Go.Proofs.Ytinbfakpjnnagaa
open Go.RowKit Go.Vs Go.Vs.Ab
theorem prD {d : Nat} {w : World} : Dec d w [.str, .int] prC (fun _ => True) := fun cs t => by
  obtain ⟨c0, r0, rfl, h0, t⟩ := all2_cons t
  obtain ⟨c1, r1, rfl, h1, t⟩ := all2_cons t
  obtain rfl := all2_nil t
  obtain ⟨x0, e0, g0⟩ := dec_str h0
  obtain ⟨x1, e1, g1⟩ := dec_int h1
  exact ⟨⟨x0, x1⟩, .cons e0 (.cons e1 .nil), trivial⟩
theorem clD {d : Nat} {w : World} : Dec (d + 1) w [.str, .sl [.str]] clC (fun _ => True) := fun cs t => by
  obtain ⟨c0, r0, rfl, h0, t⟩ := all2_cons t
  obtain ⟨c1, r1, rfl, h1, t⟩ := all2_cons t
  obtain rfl := all2_nil t
  obtain ⟨x0, e0, g0⟩ := dec_str h0
  obtain ⟨l, e1, g1⟩ := dec_sl stD h1
  exact ⟨⟨x0, false, l⟩, .cons e0 (.cons e1 .nil), trivial⟩
theorem ruD {d : Nat} {w : World} : Dec (d + 1) w (atSh ++ [.sl atSh]) ruC (fun _ => True) := fun cs t => by
  obtain ⟨x, y, rfl, t0, t1⟩ := all2_split t
  obtain ⟨a, e0, g0⟩ := atD x t0
  obtain ⟨c1, r1, rfl, h1, t1⟩ := all2_cons t1
  obtain rfl := all2_nil t1
  obtain ⟨l, e1, g1⟩ := dec_sl atD h1
  exact ⟨⟨a, false, l⟩, RepCs.append e0 (.cons e1 .nil), trivial⟩
theorem grD {d : Nat} {w : World} : Dec (d + 1) w (.str :: (atSh ++ [.sl atSh])) grC (fun _ => True) := fun cs t => by
  obtain ⟨c0, r0, rfl, h0, t⟩ := all2_cons t
  obtain ⟨x, y, rfl, t0, t1⟩ := all2_split t
  obtain ⟨s, e, _⟩ := dec_str h0
  obtain ⟨a, e0, g0⟩ := atD x t0
  obtain ⟨c1, r1, rfl, h1, t1⟩ := all2_cons t1
  obtain rfl := all2_nil t1
  obtain ⟨l, e1, g1⟩ := dec_sl atD h1
  exact ⟨⟨s, a, false, l⟩, .cons e (RepCs.append e0 (.cons e1 .nil)), trivial⟩
def poSh13 : List Sh := [.sl [.str], .sl [.str, .int], .sl [.str, .sl [.str]], .int, .int, .sl (atSh ++ [.sl atSh]), .sl (.str :: (atSh ++ [.sl atSh]))]
theorem poD {d : Nat} {w : World} : Dec (d + 2) w poSh13 poC (fun _ => True) := fun cs t => by
  obtain ⟨c0, r0, rfl, h0, t⟩ := all2_cons t
  obtain ⟨c1, r1, rfl, h1, t⟩ := all2_cons t
  obtain ⟨c2, r2, rfl, h2, t⟩ := all2_cons t
  obtain ⟨c3, r3, rfl, h3, t⟩ := all2_cons t
  obtain ⟨c4, r4, rfl, h4, t⟩ := all2_cons t
  obtain ⟨c5, r5, rfl, h5, t⟩ := all2_cons t
  obtain ⟨c6, r6, rfl, h6, t⟩ := all2_cons t
  obtain rfl := all2_nil t
  obtain ⟨l0, e0, g0⟩ := dec_sl stD h0
  obtain ⟨l1, e1, g1⟩ := dec_sl prD h1
  obtain ⟨l2, e2, g2⟩ := dec_sl clD h2
  obtain ⟨q, e3, g3⟩ := dec_int h3
  obtain ⟨b, e4, g4⟩ := dec_int h4
  obtain ⟨l5, e5, g5⟩ := dec_sl ruD h5
  obtain ⟨l6, e6, g6⟩ := dec_sl grD h6
  exact ⟨⟨false, l0, false, l1, false, l2, q, b, false, l5, false, l6⟩, .cons e0 (.cons e1 (.cons e2 (.cons e3 (.cons e4 (.cons e5 (.cons e6 .nil)))))), trivial⟩
end Go.Proofs.Ytinbfakpjnnagaa
namespace Go.Proofs.Ytinbfakpjnnagaa.texts
open Go.ChangeShapes Go.WideShapes Go.ChangeAt Go.RowKit Go.Vs Go.Vs.Ab
theorem own : ownKnob Try.prog.godebug = none := by kernel_rfl
theorem laidOut : laidOutB Try.prog = true := by kernel_rfl
theorem readable : (Try.f4.params.toList.all fun t => Try.prog.readableRec t && decide (t < Try.prog.types.size)) = true := by kernel_rfl
theorem shape28 : shapeOf Try.prog 8 28 = some poSh13 := by kernel_rfl
set_option maxRecDepth 100000 in
theorem lifted (os : Os) (started : os.Started) (H : Type) (enc : TypeId × Value → H) :
    ReturnsInHanded {} Try.checked os 4 .any (Rows.desugarTextsSpec.pre6 enc Try.prog Try.f4 Rows.desugarTextsRow.domain false) (Rows.desugarTextsSpec.post enc Try.prog Try.f4 false true false false) := by
  refine returnsInHanded_of_change (C := Try.checked) own started (by kernel_rfl) Try.func4
    (ChangeSpec.witness6 (enc := enc) (C := Try.checked) false ⟨#[], #[.agg #[.slice none 0 0, .slice none 0 0, .slice none 0 0, .int .i64 0, .int .i64 0, .slice none 0 0, .slice none 0 0]], []⟩ 8 (by kernel_rfl) (by kernel_rfl) (by kernel_rfl) (by kernel_rfl)) ?_
  intro W base args ds gs before hval0 hW hcnd _
  have hval : ∀ (j : Nat) t v, Try.f4.params[j]? = some t → args[j]? = some v → Value.okWide Try.prog W .any base t v := hval0
  have hW' := hW
  obtain ⟨p, q, hA0, hV, rfl, hfz, hnd⟩ := hW
  have hA : DataW.TrodAll enc Try.prog W 0 (fun _ => true) true Try.f4.params.toList args.toList ds p := hA0
  rw [Try.params4] at hA hval
  obtain ⟨v0, vs0, d0, ds0, p0, q0, hargs, rfl, rfl, h0, r0⟩ := trodAll_cons hA
  obtain ⟨rfl, rfl, rfl⟩ := trodAll_nil r0
  obtain rfl : args = #[v0] := by cases args; simp_all
  obtain ⟨rfl, rfl⟩ := trodVars_none hV
  obtain ⟨a0, R0, _⟩ := open_agg Try.underlying28 shape28 poD (hval 0 28 v0 rfl rfl) h0
  refine ((texts13_does a0).bool (Reps.cons R0 Reps.nil)).mono fun e W' ⟨he, hb⟩ => ?_
  subst he
  refine ⟨_, rfl, law_post (tb := 4) hW' rfl rfl laidOut (fun t ht => ?_) rfl Try.underlying4 hb⟩
  have := List.all_eq_true.1 readable t ht
  simp only [Bool.and_eq_true, decide_eq_true_eq] at this
  exact this
theorem holds : Rows.DesugarTextsSaid :=
  OpenClaim.holds_of_wide 4 Try.f4 rfl rfl rfl rfl rfl rfl rfl ⟨rfl, rfl, rfl, rfl, rfl⟩ rfl rfl rfl rfl rfl (by kernel_rfl) Try.func4 (by kernel_rfl)
    (of_decide_eq_true (by kernel_rfl)) (by unfold Func.isWrapper; first | (rw [if_pos (by decide +kernel)]; kernel_rfl) | (rw [if_neg (by decide +kernel)]; exact ⟨rfl, rfl⟩))
    (fun os started H enc _ => lifted os started H enc)
#print axioms holds
end Go.Proofs.Ytinbfakpjnnagaa.texts
