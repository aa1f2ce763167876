/-
  For every input the statement DesugarRanges returns true, and leaves its arguments as they were.
-/
import Derived.Test.YtinbfakpjnnagaaRm1
import Derived.Test.YtinbfakpjnnagaaRDh
import Derived.Test.YtinbfakpjnnagaaRBd
import Derived.Lib.AppendStr
import Derived.Lib.Builder
import Derived.Lib.UnsafeStr
import Derived.WalkKit
import Derived.Laws.Externs
import Derived.Lib.Hide
import Derived.Shelf.Strconv.Itoa3
import Derived.Lib.ItoaLen
import Derived.Test.YtinbfakpjnnagaaROpen
import Derived.SizedLaws
import Derived.Test.YtinbfakpjnnagaaRLaw
import Derived.Test.YtinbfakpjnnagaaRows
set_option linter.unusedSimpArgs false
set_option linter.unusedVariables false
namespace Go.Proofs.Ytinbfakpjnnagaa
open Go.RowKit Go.Lib Go.Vs Go.Vs.Ab
set_option maxRecDepth 100000
set_option maxHeartbeats 4000000
theorem repcs_split {C : Nat → Nat → Option Value} {a b : List CV} {xs : List Value} (h : RepCs C (a ++ b) xs) : ∃ x y, xs = x ++ y ∧ RepCs C a x ∧ RepCs C b y := by
  have hl : (a ++ b).length = xs.length := h.1
  rw [List.length_append] at hl
  refine ⟨xs.take a.length, xs.drop a.length, (List.take_append_drop _ _).symm, ⟨by rw [List.length_take]; omega, fun i c x h1 h2 => ?_⟩, ⟨by rw [List.length_drop]; omega, fun i c x h1 h2 => ?_⟩⟩
  · have hi := (List.getElem?_eq_some_iff.1 h1).1
    rw [List.getElem?_take, if_pos hi] at h2
    exact h.2 i c x (by rw [List.getElem?_append_left hi]; exact h1) h2
  · rw [List.getElem?_drop] at h2
    exact h.2 (a.length + i) c x (by rw [List.getElem?_append_right (by omega), Nat.add_sub_cancel_left]; exact h1) h2
theorem repcs_one {C : Nat → Nat → Option Value} {c : CV} {xs : List Value} (h : RepCs C [c] xs) : ∃ x, xs = [x] ∧ RepC C c x := by
  obtain ⟨x, rfl⟩ := List.length_eq_one_iff.1 h.1.symm
  exact ⟨x, rfl, h.2 0 _ _ rfl rfl⟩
theorem repcs_join {C : Nat → Nat → Option Value} {a b : List CV} {x y : List Value} (h : RepCs C a x) (k : RepCs C b y) : RepCs C (a ++ b) (x ++ y) := by
  refine ⟨by rw [List.length_append, List.length_append, h.1, k.1], fun i c u h1 h2 => ?_⟩
  by_cases hi : i < a.length
  · rw [List.getElem?_append_left hi] at h1
    rw [List.getElem?_append_left (by rw [← h.1]; exact hi)] at h2
    exact h.2 i c u h1 h2
  · rw [List.getElem?_append_right (by omega)] at h1
    rw [List.getElem?_append_right (by rw [← h.1]; omega), ← h.1] at h2
    exact k.2 _ c u h1 h2
def clsC (c : Cls) : List CV := [.v (.string c.head.says), .v (.string c.head.pred), .v (.int .i64 c.head.n), .v (.bool c.head.a0.v), .v (.string c.head.a0.name), .v (.bool c.head.a1.v), .v (.string c.head.a1.name), .v (.bool c.head.a2.v), .v (.string c.head.a2.name), .v (.bool c.head.a3.v), .v (.string c.head.a3.name), slC atC c.ex c.body]
abbrev clsA (c : Cls) : AV := .agg (clsC c)
theorem grantcl_does (h : Atm) (tw : ByteArray) (l : List Atm) (ex : Bool) (hl : l.length ≤ 100000) : Does Try.prog 40 [.agg ([.v (.string h.says), .v (.string h.pred), .v (.int .i64 h.n), .v (.bool h.a0.v), .v (.string h.a0.name), .v (.bool h.a1.v), .v (.string h.a1.name), .v (.bool h.a2.v), .v (.string h.a2.name), .v (.bool h.a3.v), .v (.string h.a3.name)] ++ [slC atC ex l] ++ [.v (.string tw)])] (fun m => (.agg ([.v (.string h.says), .v (.string h.pred), .v (.int .i64 h.n), .v (.bool h.a0.v), .v (.string h.a0.name), .v (.bool h.a1.v), .v (.string h.a1.name), .v (.bool h.a2.v), .v (.string h.a2.name), .v (.bool h.a3.v), .v (.string h.a3.name)] ++ [.sl false (l.length + 1) ((({ h with says := tw } : Atm) :: l).flatMap atC)]), m)) := by
  refine does_of_rdW (enc := atC) (encV := fun a => a.cells.toList) (size := 11) (l := ({ h with says := tw } : Atm) :: l) vals_atC one_atC (fun c => .agg ([.v (.string h.says), .v (.string h.pred), .v (.int .i64 h.n), .v (.bool h.a0.v), .v (.string h.a0.name), .v (.bool h.a1.v), .v (.string h.a1.name), .v (.bool h.a2.v), .v (.string h.a2.name), .v (.bool h.a3.v), .v (.string h.a3.name)] ++ [c])) (fun v => .agg (h.cells ++ #[v])) (fun X c v hr => ?_) (callable Try.func40 (by kernel_rfl)) (fun X w vs hcell hargs => ?_)
  · refine .agg ?_
    rw [Array.toList_append]
    exact repcs_join (repcs_vals (vals_atC h) (one_atC h)) ⟨rfl, fun i d x h1 h2 => by
      match i with
      | 0 => simp at h1 h2; subst h1 h2; exact hr
      | i + 1 => simp at h1⟩
  · obtain ⟨v, hv, hr⟩ := reps1 hargs
    cases hr with
    | agg hr =>
      rename_i xs
      obtain ⟨y, z, e1, q1, q2⟩ := repcs_split hr
      obtain ⟨y1, y2, e2, q3, q4⟩ := repcs_split q1
      obtain ⟨s, rfl, q5⟩ := repcs_one q2
      obtain ⟨u, rfl, q6⟩ := repcs_one q4
      obtain rfl := vals_rep (vals_atC h) q3
      obtain rfl : s = .string tw := by cases q5; rfl
      have hvs : vs = #[.agg (h.cells ++ #[u] ++ #[.string tw])] := by
        apply Array.ext'
        rw [hv]
        congr 2
        apply Array.ext'
        rw [e1, e2]
        simp
      rw [hvs]
      exact grant_raw h tw l hl w u (rd_slR (ex := ex) vals_atC (fun _ => rfl) hcell (.c q6) (by decide)) (by intro p hp; simp [tabs] at hp)
theorem gr13_does (g : Grt) (hl : g.body.length ≤ 100000) : Does Try.prog 15 [grA g] (fun m => (clsA (grCls g), m)) := by
  have c1 := grantcl_does g.head g.tw g.body g.ex hl
  refine does_of' Try.func15 rfl (by kernel_rfl) rfl Try.ntmps15 rfl rfl fun Q hQ => ?_
  repeat (first | refine tr_seq_k fun _ _ => ?_ | (refine tr_region ?_; simp only [go_sem, reduceCtorEq, Nat.reduceEqDiff, Nat.reduceLT, Nat.reduceLeDiff, Nat.reduceAdd, Nat.reduceMul, Nat.reduceSub, Nat.reduceBEq, ↓reduceIte]) | (refine call_of (c1) ?_ ?_; (first | rfl | simp only [go_sem, reduceCtorEq, Nat.reduceEqDiff, Nat.reduceLT, Nat.reduceLeDiff, Nat.reduceAdd, Nat.reduceMul, Nat.reduceSub, Nat.reduceBEq, ↓reduceIte, shut_col]); simp only [go_sem, reduceCtorEq, Nat.reduceEqDiff, Nat.reduceLT, Nat.reduceLeDiff, Nat.reduceAdd, Nat.reduceMul, Nat.reduceSub, Nat.reduceBEq, ↓reduceIte]) | refine k_of (by assumption) ?_ | (refine tr_ret ?_; try simp only [ex_seq_ret, ex_block_ret]))
  refine (hQ _ _ [clsA (grCls g)] ?_ (fun m => rfl)).2 <;> simp only [go_sem, reduceCtorEq, Nat.reduceEqDiff, Nat.reduceLT, Nat.reduceLeDiff, Nat.reduceAdd, Nat.reduceMul, Nat.reduceSub, Nat.reduceBEq, ↓reduceIte, Try.f15]
  rfl
theorem stated_does (h : Atm) (l : List Atm) (ex : Bool) (hl : l.length ≤ 1000000) : Does Try.prog 26 [.agg ([.v (.string h.says), .v (.string h.pred), .v (.int .i64 h.n), .v (.bool h.a0.v), .v (.string h.a0.name), .v (.bool h.a1.v), .v (.string h.a1.name), .v (.bool h.a2.v), .v (.string h.a2.name), .v (.bool h.a3.v), .v (.string h.a3.name)] ++ [slC atC ex l])] (fun m => (.agg ([.v (.string h.says), .v (.string h.pred), .v (.int .i64 h.n), .v (.bool h.a0.v), .v (.string h.a0.name), .v (.bool h.a1.v), .v (.string h.a1.name), .v (.bool h.a2.v), .v (.string h.a2.name), .v (.bool h.a3.v), .v (.string h.a3.name)] ++ [slC atC l.isEmpty l]), m)) := by
  have c1 := (cloneA_own l ex hl).shut
  refine does_of' Try.func26 rfl (by kernel_rfl) rfl Try.ntmps26 rfl rfl fun Q hQ => ?_
  repeat (first | refine tr_seq_k fun _ _ => ?_ | (refine tr_region ?_; simp only [go_sem, reduceCtorEq, Nat.reduceEqDiff, Nat.reduceLT, Nat.reduceLeDiff, Nat.reduceAdd, Nat.reduceMul, Nat.reduceSub, Nat.reduceBEq, ↓reduceIte]) | (refine tr_draw (id := 1) follows 6 [4, 6] [0, 1, 2, 3, 4, 5, 6] (by kernel_rfl) ?_; simp only [go_sem, reduceCtorEq, Nat.reduceEqDiff, Nat.reduceLT, Nat.reduceLeDiff, Nat.reduceAdd, Nat.reduceMul, Nat.reduceSub, Nat.reduceBEq, ↓reduceIte]) | (refine call_of (c1) ?_ ?_; (first | rfl | simp only [go_sem, reduceCtorEq, Nat.reduceEqDiff, Nat.reduceLT, Nat.reduceLeDiff, Nat.reduceAdd, Nat.reduceMul, Nat.reduceSub, Nat.reduceBEq, ↓reduceIte, shut_col]); simp only [go_sem, reduceCtorEq, Nat.reduceEqDiff, Nat.reduceLT, Nat.reduceLeDiff, Nat.reduceAdd, Nat.reduceMul, Nat.reduceSub, Nat.reduceBEq, ↓reduceIte]) | refine k_of (by assumption) ?_ | (refine tr_ret ?_; try simp only [ex_seq_ret, ex_block_ret]))
  refine (hQ _ _ [.agg ([.v (.string h.says), .v (.string h.pred), .v (.int .i64 h.n), .v (.bool h.a0.v), .v (.string h.a0.name), .v (.bool h.a1.v), .v (.string h.a1.name), .v (.bool h.a2.v), .v (.string h.a2.name), .v (.bool h.a3.v), .v (.string h.a3.name)] ++ [slC atC l.isEmpty l])] ?_ (fun m => rfl)).2 <;> simp only [go_sem, reduceCtorEq, Nat.reduceEqDiff, Nat.reduceLT, Nat.reduceLeDiff, Nat.reduceAdd, Nat.reduceMul, Nat.reduceSub, Nat.reduceBEq, ↓reduceIte, Try.f26]
/-! ### the clauses -/
theorem info_c13 : info3 Try.prog 43 = some (12, 160) := by simp only [info3, sz43, by43, ze43]; rfl
theorem bld1C13 (c : Cls) : aBuildSlice Try.prog 33 1 [(0, clsA c)] = some (clsC c) := by
  simp only [aBuildSlice, Try.underlying33, sz43, ze43]
  rfl
theorem bld1R (h : Atm) (l : List Atm) : aBuildSlice Try.prog 33 1 [(0, .agg [.v (.string h.says), .v (.string h.pred), .v (.int .i64 h.n), .v (.bool h.a0.v), .v (.string h.a0.name), .v (.bool h.a1.v), .v (.string h.a1.name), .v (.bool h.a2.v), .v (.string h.a2.name), .v (.bool h.a3.v), .v (.string h.a3.name), slC atC l.isEmpty l])] = some (clsC ⟨h, l.isEmpty, l⟩) := bld1C13 ⟨h, l.isEmpty, l⟩
theorem colH_le1 {T : Type} {e size : Nat} {l k : List T} {x : T} : (colH e size l).length ≤ (colH e size (k ++ [x])).length := by
  cases l <;> cases k <;> simp [colH]
def clsT (p : Pol) (k : Nat) : List Cls := (p.rules.take k).map ruCls
def clsG (p : Pol) (k : Nat) : List Cls := p.rules.map ruCls ++ (p.grants.take k).map grCls
theorem clsT_next {p : Pol} {k : Nat} (hk : k < p.rules.length) : clsT p (k + 1) = clsT p k ++ [ruCls p.rules[k]] := by
  unfold clsT
  rw [List.take_succ_eq_append_getElem hk, List.map_append]
  rfl
theorem clsG_next {p : Pol} {k : Nat} (hk : k < p.grants.length) : clsG p (k + 1) = clsG p k ++ [grCls p.grants[k]] := by
  unfold clsG
  rw [List.take_succ_eq_append_getElem hk, List.map_append, List.append_assoc]
  rfl
theorem appCl13 (hp : List Blk) (l : List Cls) (c : Cls) (hl : l.length ≤ 1000000) : aAppend Try.prog ⟨hp, colH 43 12 l⟩ 33 (colA clsC 0 l) (.c (.sl true 1 (clsC c))) = some (colA clsC 0 (l ++ [c]), ⟨hp, colH 43 12 (l ++ [c])⟩) :=
  app_col0 (P := Try.prog) clsC (size := 12) (fun _ => rfl) Try.underlying33 info_c13 (hp := hp) (l := l) (x := c) (ex := true) (Nat.le_trans (show _ ≤ 1000001 by omega) (by decide)) (by omega)
theorem clauses_does (p : Pol) (h1 : p.rules.length ≤ 100000) (h2 : p.grants.length ≤ 100000) (h3 : ∀ r ∈ p.rules, r.body.length ≤ 100000) (h4 : ∀ g ∈ p.grants, g.body.length ≤ 100000) : Does Try.prog 8 [poA p] (freshA clsC 43 12 (clausesF p)) := by
  refine does_of' Try.func8 rfl (by kernel_rfl) rfl Try.ntmps8 rfl rfl fun Q hQ => ?_
  repeat (first | refine tr_seq_k fun _ _ => ?_ | (refine tr_region ?_; simp only [go_sem, reduceCtorEq, Nat.reduceEqDiff, Nat.reduceLT, Nat.reduceLeDiff, Nat.reduceAdd, Nat.reduceMul, Nat.reduceSub, Nat.reduceBEq, ↓reduceIte]) | refine k_of (by assumption) ?_ | refine tr_block ?_)
  refine tr_loop_k (σ := Nat) (fun k => [(1, .ptr 0 0), (3, colA clsC 0 (clsT p k)), (9, .c (slC ruC p.e4 p.rules)), (10, iA p.rules.length), (11, iA k)]) (fun k => ⟨[⟨false, [.c (slC stC p.e1 p.prin), .c (slC prC p.e2 p.preds), .c (slC clC p.e3 p.clears), iA p.quota, iA p.budget, .c (slC ruC p.e4 p.rules), .c (slC grC p.e5 p.grants)]⟩], colH 43 12 (clsT p k)⟩)
    (fun k => k ≤ p.rules.length) (fun k => p.rules.length - k) 0 (Nat.zero_le _) ⟨rfl, rfl, rfl, rfl, rfl, trivial⟩ rfl ?_
  rintro k hk K hK
  repeat (first | refine tr_seq_k fun _ _ => ?_ | (refine tr_region ?_; simp only [go_sem, reduceCtorEq, Nat.reduceEqDiff, Nat.reduceLT, Nat.reduceLeDiff, Nat.reduceAdd, Nat.reduceMul, Nat.reduceSub, Nat.reduceBEq, ↓reduceIte]) | refine k_of (by assumption) ?_)
  refine tr_cond rfl (fun ht => ?_) (fun hf => ?_)
  · have hlt : k < p.rules.length := by simpa using ht
    have ws := wrap_succ (show k ≤ 1000000000 by omega)
    have ix := idxRu (ex := p.e4) hlt
    have on := clsT_next hlt
    have tl : (clsT p k).length ≤ k := by unfold clsT; rw [List.length_map, List.length_take]; omega
    have hb := h3 _ (List.getElem_mem hlt)
    generalize p.rules[k] = x at *
    have cS := stated_does x.head x.body x.ex (by omega)
    have hA0 := fun hp => appCl13 hp (clsT p k) ⟨x.head, x.body.isEmpty, x.body⟩ (by omega)
    rw [show clsT p k ++ [(⟨x.head, x.body.isEmpty, x.body⟩ : Cls)] = clsT p (k + 1) from on.symm] at hA0
    have hb1 := bld1R x.head x.body
    repeat (first | refine tr_seq_k fun _ _ => ?_ | (refine tr_region ?_; simp only [go_sem, reduceCtorEq, Nat.reduceEqDiff, Nat.reduceLT, Nat.reduceLeDiff, Nat.reduceAdd, Nat.reduceMul, Nat.reduceSub, Nat.reduceBEq, ↓reduceIte, ix, hb1, one_max, hA0, ws]) | (refine call_of (cS) ?_ ?_; (first | rfl | simp only [go_sem, reduceCtorEq, Nat.reduceEqDiff, Nat.reduceLT, Nat.reduceLeDiff, Nat.reduceAdd, Nat.reduceMul, Nat.reduceSub, Nat.reduceBEq, ↓reduceIte, ix, hb1, one_max, hA0, ws, shut_col]); simp only [go_sem, reduceCtorEq, Nat.reduceEqDiff, Nat.reduceLT, Nat.reduceLeDiff, Nat.reduceAdd, Nat.reduceMul, Nat.reduceSub, Nat.reduceBEq, ↓reduceIte, ix, hb1, one_max, hA0, ws]) | refine k_of (by assumption) ?_ | refine tr_block ?_ | (refine tr_skip ?_; try simp only [ex_seq, ex_block]))
    exact hK (k + 1) _ _ hlt ⟨⟨rfl, rfl, rfl, rfl, rfl, trivial⟩, Keep.of (eh := [_]) (ew := []) rfl (by rw [List.append_nil]), by simp only [lowF, low_col]; rfl, rfl, Nat.le_refl _, Nat.zero_le _⟩ (by omega)
  · have hkl : k = p.rules.length := by
      have := of_decide_eq_false hf
      omega
    subst hkl
    have e0 : clsT p p.rules.length = clsG p 0 := by unfold clsT clsG; rw [List.take_length, List.take_zero, List.map_nil, List.append_nil]
    rw [e0]
    repeat (first | refine tr_seq_k fun _ _ => ?_ | (refine tr_region ?_; simp only [go_sem, reduceCtorEq, Nat.reduceEqDiff, Nat.reduceLT, Nat.reduceLeDiff, Nat.reduceAdd, Nat.reduceMul, Nat.reduceSub, Nat.reduceBEq, ↓reduceIte]) | refine k_of (by assumption) ?_ | refine tr_block ?_ | (refine tr_exit ?_; try simp only [ex_seq_exit, ex_block_exit, Nat.reduceEqDiff, if_true, if_false, ex_seq, ex_block, reduceCtorEq, ↓reduceIte]))
    refine tr_loop_k (σ := Nat) (fun k => [(1, .ptr 0 0), (3, colA clsC 0 (clsG p k)), (28, .c (slC grC p.e5 p.grants)), (29, iA p.grants.length), (30, iA k)]) (fun k => ⟨[⟨false, [.c (slC stC p.e1 p.prin), .c (slC prC p.e2 p.preds), .c (slC clC p.e3 p.clears), iA p.quota, iA p.budget, .c (slC ruC p.e4 p.rules), .c (slC grC p.e5 p.grants)]⟩], colH 43 12 (clsG p k)⟩)
      (fun k => k ≤ p.grants.length) (fun k => p.grants.length - k) 0 (Nat.zero_le _) ⟨rfl, rfl, rfl, rfl, rfl, trivial⟩ rfl ?_
    rintro k hk K hK
    repeat (first | refine tr_seq_k fun _ _ => ?_ | (refine tr_region ?_; simp only [go_sem, reduceCtorEq, Nat.reduceEqDiff, Nat.reduceLT, Nat.reduceLeDiff, Nat.reduceAdd, Nat.reduceMul, Nat.reduceSub, Nat.reduceBEq, ↓reduceIte]) | refine k_of (by assumption) ?_)
    refine tr_cond rfl (fun ht => ?_) (fun hf => ?_)
    · have hlt : k < p.grants.length := by simpa using ht
      have ws := wrap_succ (show k ≤ 1000000000 by omega)
      have ix := idxGr (ex := p.e5) hlt
      have on := clsG_next hlt
      have tl : (clsG p k).length ≤ p.rules.length + k := by unfold clsG; rw [List.length_append, List.length_map, List.length_map, List.length_take]; omega
      have hb := h4 _ (List.getElem_mem hlt)
      generalize p.grants[k] = x at *
      have cS := gr13_does x hb
      have hA0 := fun hp => appCl13 hp (clsG p k) (grCls x) (by omega)
      rw [← on] at hA0
      have hb1 := bld1C13 (grCls x)
      repeat (first | refine tr_seq_k fun _ _ => ?_ | (refine tr_region ?_; simp only [go_sem, reduceCtorEq, Nat.reduceEqDiff, Nat.reduceLT, Nat.reduceLeDiff, Nat.reduceAdd, Nat.reduceMul, Nat.reduceSub, Nat.reduceBEq, ↓reduceIte, ix, hb1, one_max, hA0, ws]) | (refine call_of (cS) ?_ ?_; (first | rfl | simp only [go_sem, reduceCtorEq, Nat.reduceEqDiff, Nat.reduceLT, Nat.reduceLeDiff, Nat.reduceAdd, Nat.reduceMul, Nat.reduceSub, Nat.reduceBEq, ↓reduceIte, ix, hb1, one_max, hA0, ws, shut_col]); simp only [go_sem, reduceCtorEq, Nat.reduceEqDiff, Nat.reduceLT, Nat.reduceLeDiff, Nat.reduceAdd, Nat.reduceMul, Nat.reduceSub, Nat.reduceBEq, ↓reduceIte, ix, hb1, one_max, hA0, ws]) | refine k_of (by assumption) ?_ | refine tr_block ?_ | (refine tr_skip ?_; try simp only [ex_seq, ex_block]))
      exact hK (k + 1) _ _ hlt ⟨⟨rfl, rfl, rfl, rfl, rfl, trivial⟩, Keep.of (eh := [_]) (ew := []) rfl (by rw [List.append_nil]), by simp only [lowF, low_col]; rfl, rfl, Nat.le_refl _, by dsimp only; rw [on]; exact colH_le1⟩ (by omega)
    · have hkl : k = p.grants.length := by
        have := of_decide_eq_false hf
        omega
      subst hkl
      have e1 : clsG p p.grants.length = clausesF p := by unfold clsG clausesF; rw [List.take_length]
      rw [e1]
      repeat (first | refine tr_seq_k fun _ _ => ?_ | (refine tr_region ?_; simp only [go_sem, reduceCtorEq, Nat.reduceEqDiff, Nat.reduceLT, Nat.reduceLeDiff, Nat.reduceAdd, Nat.reduceMul, Nat.reduceSub, Nat.reduceBEq, ↓reduceIte]) | refine k_of (by assumption) ?_ | (refine tr_exit ?_; try simp only [ex_seq_exit, ex_block_exit, Nat.reduceEqDiff, if_true, if_false, ex_seq, ex_block, reduceCtorEq, ↓reduceIte]) | (refine tr_ret ?_; try simp only [ex_seq_ret, ex_block_ret]))
      refine (hQ _ _ [colA clsC 0 (clausesF p)] ?_ (fun m => ret_col clsC 43 12 (clausesF p) _ m)).2 <;> simp only [go_sem, reduceCtorEq, Nat.reduceEqDiff, Nat.reduceLT, Nat.reduceLeDiff, Nat.reduceAdd, Nat.reduceMul, Nat.reduceSub, Nat.reduceBEq, ↓reduceIte, Try.f8]
end Go.Proofs.Ytinbfakpjnnagaa
namespace Go.Vs.Ab
open Go.RowKit
variable {P : Program} {X : Mem} {W0 w w' : World} {m : Mm}
theorem strCells_app (o s : ByteArray) : Lib.strCells (o ++ s) = Lib.strCells o ++ Lib.strCells s := by
  simp [Lib.strCells]
theorem app_size (o s : ByteArray) : (o ++ s).size = o.size + s.size := by
  rw [← Lib.strCells_length, strCells_app, List.length_append, Lib.strCells_length, Lib.strCells_length]
theorem MR.byt (M : MR X W0 m w) {j : Nat} {e : TypeId} {o : ByteArray} (hj : m.hp[j]? = some ⟨false, [.byt e o]⟩) :
    ∃ γ arr, X.loc j = some γ ∧ W0.heap.size ≤ γ ∧ w.heap[γ]? = some (.cells arr e (0, 0)) ∧ o.size ≤ arr.size ∧ arr.toList.take o.size = Lib.strCells o ∧ ∀ q, X.cell γ q = none := by
  obtain ⟨γ, h1, h2, h3, hB⟩ := M.locs j _ hj
  cases hB with
  | dead h => simp at h
  | ent h => simp at h
  | bld h => simp at h
  | byt h g1 g2 g3 g4 g5 =>
    simp only [List.cons.injEq, AV.byt.injEq, and_true] at h
    obtain ⟨rfl, rfl⟩ := h
    exact ⟨γ, _, h1, h2, g1, g2, g3, g5⟩
  | cells _ _ hr => exact (reps_no hr (fun x hx => by cases hx)).elim
/-! ### what that leaves of the memory -/
/-! ### a block that is a Builder, in the world -/
theorem MR.bld (M : MR X W0 m w) {b : Nat} {T : TypeId} {u : Bool} {c : AV} (hb : m.hp[b]? = some ⟨false, [.bld T u c]⟩) :
    ∃ β v, X.loc b = some β ∧ W0.heap.size ≤ β ∧ w.heap[β]? = some (.cells #[bptr u β, v] T (0, 0)) ∧ Rep X c v ∧ ∀ o, X.cell β o = none := by
  obtain ⟨β, h1, h2, h3, hB⟩ := M.locs b _ hb
  cases hB with
  | dead h => simp at h
  | ent h => simp at h
  | byt h => simp at h
  | bld h g1 g2 g3 g4 =>
    simp only [List.cons.injEq, AV.bld.injEq, and_true] at h
    obtain ⟨rfl, rfl, rfl⟩ := h
    exact ⟨β, _, h1, h2, g1, g2, g4⟩
  | cells _ _ hr => exact (reps_no hr (fun x hx => by cases hx)).elim
end Go.Vs.Ab
namespace Go.Proofs.Ytinbfakpjnnagaa
open Go.RowKit Go.Vs Go.Vs.Ab
set_option maxRecDepth 100000
set_option maxHeartbeats 4000000
section
variable {X : Mem} {W0 w : World} {m : Mm} {b : Nat} {u : Bool} {c : AV}
end
end Go.Proofs.Ytinbfakpjnnagaa
namespace Go.Proofs.Ytinbfakpjnnagaa
open Go.RowKit Go.Vs Go.Vs.Ab
set_option maxRecDepth 100000
set_option maxHeartbeats 4000000
/-! ### a page -/
structure KpP (m m' : Mm) : Prop where
  hw : m'.hw = m.hw
  len : m.hp.length ≤ m'.hp.length
  old : ∀ (i : Nat) (blk : Blk), plainB blk.cs = true → m.hp[i]? = some blk → m'.hp[i]? = some blk
theorem KpP.refl (m : Mm) : KpP m m := ⟨rfl, Nat.le_refl _, fun _ _ _ h => h⟩
theorem KpP.trans {m1 m2 m3 : Mm} (h : KpP m1 m2) (k : KpP m2 m3) : KpP m1 m3 := ⟨k.hw.trans h.hw, Nat.le_trans h.len k.len, fun i blk hp hi => k.old i blk hp (h.old i blk hp hi)⟩
end Go.Proofs.Ytinbfakpjnnagaa
namespace Go.Proofs.Ytinbfakpjnnagaa
open Go.RowKit Go.Vs Go.Vs.Ab
set_option maxRecDepth 100000
set_option maxHeartbeats 4000000
theorem build2T (x y : ByteArray) : aBuildSlice Try.prog 22 2 [(0, .c (.v (.string x))), (1, .c (.v (.string y)))] = some [.v (.string x), .v (.string y)] := by
  simp only [aBuildSlice, Try.underlying22, sz9, ze9]
  rfl
theorem build4T (x y z u : ByteArray) : aBuildSlice Try.prog 22 4 [(0, .c (.v (.string x))), (1, .c (.v (.string y))), (2, .c (.v (.string z))), (3, .c (.v (.string u)))] = some [.v (.string x), .v (.string y), .v (.string z), .v (.string u)] := by
  simp only [aBuildSlice, Try.underlying22, sz9, ze9]
  rfl
theorem build5T (x y z u v : ByteArray) : aBuildSlice Try.prog 22 5 [(0, .c (.v (.string x))), (1, .c (.v (.string y))), (2, .c (.v (.string z))), (3, .c (.v (.string u))), (4, .c (.v (.string v)))] = some [.v (.string x), .v (.string y), .v (.string z), .v (.string u), .v (.string v)] := by
  simp only [aBuildSlice, Try.underlying22, sz9, ze9]
  rfl
theorem two_max : (2 ≤ maxLen) = True := eq_true (by decide)
theorem five_max : (5 ≤ maxLen) = True := eq_true (by decide)
attribute [go_sem] one_max two_max four_max five_max build1T build2T build4T build5T
abbrev tIf : ByteArray := ⟨#[32, 105, 102, 32]⟩
def pbodyK (l : List Atm) : Nat → ByteArray
  | 0 => ⟨#[]⟩
  | k + 1 => pbodyK l k ++ match l[k]? with
    | some a => (if k = 0 then tIf else tComma) ++ ptext a
    | none => ⟨#[]⟩
def pbody (l : List Atm) : ByteArray := pbodyK l l.length
theorem pbodyK_next {l : List Atm} {k : Nat} (h : k < l.length) : pbodyK l (k + 1) = pbodyK l k ++ ((if k = 0 then tIf else tComma) ++ ptext l[k]) := by
  simp only [pbodyK, List.getElem?_eq_getElem h]
theorem ptext_size {a : Atm} (h : AtSz a) : (ptext a).size ≤ 10000000 := by
  obtain ⟨h1, h2, h3⟩ := h
  have hk := psaidK_size ⟨h1, h2, h3⟩ a.count
  have h4 := a.count_le
  have hm : a.count * 1000002 ≤ 4 * 1000002 := Nat.mul_le_mul_right _ h4
  have e1 : tSays.size = 6 := rfl
  have e2 : tShut.size = 1 := rfl
  have h5 : (psaid a).size ≤ 6000000 := by
    unfold psaid
    split
    · rw [app_size, e2]; omega
    · omega
  unfold ptext
  rw [app_size, app_size, e1]
  omega
theorem pbodyK_size {l : List Atm} (h : ∀ a ∈ l, AtSz a) : ∀ k, (pbodyK l k).size ≤ k * 10000010
  | 0 => by show (0 : Nat) ≤ _; omega
  | k + 1 => by
    have ih := pbodyK_size h k
    unfold pbodyK
    rw [app_size]
    split
    · rename_i a ha
      have := ptext_size (h a (List.mem_of_getElem? ha))
      rw [app_size]
      have e1 : tIf.size = 4 := rfl
      have e2 : tComma.size = 2 := rfl
      split
      · rw [e1]; omega
      · rw [e2]; omega
    · have e0 : (⟨#[]⟩ : ByteArray).size = 0 := rfl
      have ih2 : (pbodyK l k).size ≤ k * 10000010 := ih
      generalize (⟨#[]⟩ : ByteArray).size = z at *
      omega
end Go.Proofs.Ytinbfakpjnnagaa
namespace Go.Proofs.Ytinbfakpjnnagaa
open Go.RowKit Go.Vs Go.Vs.Ab
set_option maxRecDepth 100000
set_option maxHeartbeats 4000000
/-! ### rules, grants, clears, goals -/
/-! ### numbers -/
end Go.Proofs.Ytinbfakpjnnagaa
namespace Go.Proofs.Ytinbfakpjnnagaa
open Go.RowKit Go.Vs Go.Vs.Ab
set_option maxRecDepth 100000
set_option maxHeartbeats 4000000
theorem pbody_size {l : List Atm} (h : ∀ a ∈ l, AtSz a) (hl : l.length ≤ 400) : (pbody l).size ≤ 4000004000 := by
  have h1 := pbodyK_size h l.length
  have h2 : l.length * 10000010 ≤ 400 * 10000010 := Nat.mul_le_mul_right _ hl
  unfold pbody
  omega
end Go.Proofs.Ytinbfakpjnnagaa
namespace Go.Proofs.Ytinbfakpjnnagaa
open Go.RowKit Go.Vs Go.Vs.Ab
set_option maxRecDepth 100000
set_option maxHeartbeats 4000000
abbrev eAl : ByteArray := ⟨#[97, 108, 105, 99, 101]⟩
abbrev eBo : ByteArray := ⟨#[98, 111, 98]⟩
abbrev eCa : ByteArray := ⟨#[99, 97, 114, 111, 108]⟩
abbrev eP : ByteArray := ⟨#[112]⟩
abbrev eQ : ByteArray := ⟨#[113]⟩
abbrev eX : ByteArray := ⟨#[88]⟩
abbrev eZ : Tm := ⟨false, ⟨#[]⟩⟩
def at1 : Atm := ⟨eAl, eP, 1, ⟨true, eX⟩, eZ, eZ, eZ⟩
def at2 : Atm := ⟨eCa, eQ, 1, ⟨true, eX⟩, eZ, eZ, eZ⟩
theorem av_atm (a : Atm) : avOf (.agg a.cells) = some (atA a) := rfl
theorem pA_does (s p : ByteArray) (c : CV) (a : Atm) (hs : shuts [sA s, sA p, .c c] = some [sA s, sA p, .c c]) (h : answer (evFun Try.prog (lookH []) 100 16 [sA s, sA p, .c c] ⟨[], []⟩) = some (.agg a.cells)) : Does Try.prog 16 [sA s, sA p, .c c] (fun m => (atA a, m)) :=
  does_of_evA follows (callable_of Try.func16 (by kernel_rfl)) (av_atm a) hs h
theorem bld1A (a : Atm) : aBuildSlice Try.prog 41 1 [(0, .agg [.v (.string a.says), .v (.string a.pred), .v (.int .i64 a.n), .v (.bool a.a0.v), .v (.string a.a0.name), .v (.bool a.a1.v), .v (.string a.a1.name), .v (.bool a.a2.v), .v (.string a.a2.name), .v (.bool a.a3.v), .v (.string a.a3.name)])] = some ([a].flatMap atC) := by
  simp only [aBuildSlice, Try.underlying41, sz40, ze40]
  rfl
def gr1 : Grt := ⟨eBo, at1, true, [at2]⟩
theorem at1_sz : AtSz at1 := ⟨by decide, by decide, fun k => by match k with | 0 => decide | 1 => decide | 2 => decide | k + 3 => show at1.a3.name.size ≤ _; decide⟩
theorem at2_sz : AtSz at2 := ⟨by decide, by decide, fun k => by match k with | 0 => decide | 1 => decide | 2 => decide | k + 3 => show at2.a3.name.size ≤ _; decide⟩
end Go.Proofs.Ytinbfakpjnnagaa
namespace Go.Proofs.Ytinbfakpjnnagaa
open Go.RowKit Go.Vs Go.Vs.Ab
set_option maxRecDepth 100000
set_option maxHeartbeats 4000000
theorem light_parts {a : Atm} (h : lightA a = true) : a.says.size ≤ 300 ∧ a.pred.size ≤ 300 ∧ ∀ k, k < 4 → (a.arg k).name.size ≤ 300 := by
  unfold lightA lightK at h
  simp only [Bool.and_eq_true, decide_eq_true_eq, List.all_eq_true] at h
  refine ⟨h.1.1, h.1.2, fun k hk => ?_⟩
  have := h.2 (a.arg k) (by
    obtain rfl | rfl | rfl | rfl : k = 0 ∨ k = 1 ∨ k = 2 ∨ k = 3 := by omega
    all_goals simp [Atm.args, Atm.arg])
  simpa [tmL] using this
theorem lightA_sz {a : Atm} (h : lightA a = true) : AtSz a := by
  obtain ⟨h1, h2, h3⟩ := light_parts h
  refine ⟨by omega, by omega, fun k => ?_⟩
  by_cases hk : k < 4
  · have := h3 k hk; omega
  · obtain ⟨j, rfl⟩ : ∃ j, k = j + 4 := ⟨k - 4, by omega⟩
    have := h3 3 (by omega)
    show (a.arg 3).name.size ≤ 1000000
    omega
theorem lightAs_all {l : List Atm} {most : Int} (h : lightAs l most = true) : (∀ a ∈ l, AtSz a) ∧ (l.length : Int) ≤ most := by
  refine ⟨fun a ha => ?_, lightAs_len h⟩
  unfold lightAs at h
  simp only [Bool.and_eq_true, List.all_eq_true] at h
  exact lightA_sz (h.2 a ha)
end Go.Proofs.Ytinbfakpjnnagaa
namespace Go.Proofs.Ytinbfakpjnnagaa
open Go.RowKit Go.Vs Go.Vs.Ab
set_option maxRecDepth 100000
set_option maxHeartbeats 4000000
end Go.Proofs.Ytinbfakpjnnagaa
namespace Go.Proofs.Ytinbfakpjnnagaa
open Go.RowKit Go.Vs Go.Vs.Ab
set_option maxRecDepth 100000
set_option maxHeartbeats 4000000
end Go.Proofs.Ytinbfakpjnnagaa
namespace Go.Vs
open Go.Vs.Ab
theorem lts_ext (t : ByteArray) (a b : Nat) : lts (t.extract a b) = ((lts t).drop a).take (b - a) := by
  show (t.extract a b).data.toList = _
  rw [ByteArray.data_extract, Array.toList_extract, List.extract_eq_take_drop]
theorem lts_inj {a b : ByteArray} (h : lts a = lts b) : a = b := by
  apply ByteArray.ext
  exact Array.ext' h
end Go.Vs
namespace Go.Proofs.Ytinbfakpjnnagaa
open Go.RowKit Go.Vs Go.Vs.Ab
set_option maxRecDepth 100000
/-! ### no line's end within -/
/-! ### how a line ends, and which ones stand where -/
end Go.Proofs.Ytinbfakpjnnagaa
namespace Go.Vs
open Go.Vs.Ab
structure Tk where
  kind : Int
  text : ByteArray
  at_ : Int
  deriving DecidableEq
def noTk : Tk := ⟨0, ⟨#[]⟩, 0⟩
def blankB (c : UInt8) : Bool := [32, 10, 9, 13].any fun x : UInt8 => decide ((x.toNat : Int) = (c.toNat : Int))
def signB (c : UInt8) : Bool := [40, 41, 44, 46, 58, 47, 63].any fun x : UInt8 => decide ((x.toNat : Int) = (c.toNat : Int))
def moreB (kind : Int) (c : UInt8) : Bool := lowerB c || digB c || underB c || (decide (kind = 2) && upperB c)
def skipC : Bool → List UInt8 → Nat
  | _, [] => 0
  | false, c :: r => if blankB c then 1 + skipC false r else if (c.toNat : Int) = 37 then 1 + skipC true r else 0
  | true, c :: r => if (c.toNat : Int) = 10 then 1 + skipC false r else 1 + skipC true r
def skipAt (s : ByteArray) (i : Nat) : Nat := i + skipC false ((lts s).drop i)
theorem skipAt_ge (s : ByteArray) (i : Nat) : i ≤ skipAt s i := Nat.le_add_right _ _
theorem drop_cons {l : List UInt8} {i : Nat} (h : i < l.length) : l.drop i = l[i] :: l.drop (i + 1) := List.drop_eq_getElem_cons h
/-! ### a token -/
def runL (kind : Int) (l : List UInt8) : Nat := (l.takeWhile (moreB kind)).length
def runAt (kind : Int) (s : ByteArray) (i : Nat) : Nat := i + runL kind ((lts s).drop i)
def kindOf (c : UInt8) : Int := if signB c then 3 else if upperB c then 2 else if lowerB c || digB c then 1 else 0
def tokAt (s : ByteArray) (i : Nat) : Tk × Int :=
  match (lts s)[i]? with
  | none => (noTk, 3)
  | some c =>
    if kindOf c = 3 then (⟨3, s.extract i (i + 1), i⟩, 0)
    else if kindOf c = 0 then (noTk, 3)
    else if 255 < runAt (kindOf c) s i - i then (noTk, 4)
    else (⟨kindOf c, s.extract i (runAt (kindOf c) s i), i⟩, 0)
theorem tokAt_of {s : ByteArray} {i : Nat} (h : i < (lts s).length) : tokAt s i =
    if kindOf (lts s)[i] = 3 then (⟨3, s.extract i (i + 1), i⟩, 0)
    else if kindOf (lts s)[i] = 0 then (noTk, 3)
    else if 255 < runAt (kindOf (lts s)[i]) s i - i then (noTk, 4)
    else (⟨kindOf (lts s)[i], s.extract i (runAt (kindOf (lts s)[i]) s i), i⟩, 0) := by
  unfold tokAt
  rw [List.getElem?_eq_getElem h]
theorem ext_size {s : ByteArray} {a b : Nat} (h : a ≤ b) (h2 : b ≤ s.size) : (s.extract a b).size = b - a := by
  rw [← lts_len, lts_ext, List.length_take, List.length_drop, lts_len]
  omega
/-! ### all tokens -/
def toksF (s : ByteArray) : Nat → Nat → List Tk → List Tk × Int × Int
  | 0, _, out => (out, 0, 0)
  | f + 1, i, out => if i < s.size then
      if (tokAt s i).2 ≠ 0 then (out, (i : Int), (tokAt s i).2)
      else toksF s f (skipAt s (i + (tokAt s i).1.text.size)) (out ++ [(tokAt s i).1])
    else (out, 0, 0)
def toks (s : ByteArray) : List Tk × Int × Int := if 65536 < s.size then ([], 65536, 4) else toksF s (s.size + 1) (skipAt s 0) []
def toksAll (s : ByteArray) : List Tk × Int × Int := if (toks s).2.2 ≠ 0 then ([], (toks s).2.1, (toks s).2.2) else ((toks s).1, 0, 0)
end Go.Vs
namespace Go.Proofs.Ytinbfakpjnnagaa
open Go.RowKit Go.Vs Go.Vs.Ab
set_option maxRecDepth 100000
set_option maxHeartbeats 4000000
def tkC (t : Tk) : List CV := [.v (.int .i64 t.kind), .v (.string t.text), .v (.int .i64 t.at_)]
attribute [go_sem] tkC
end Go.Proofs.Ytinbfakpjnnagaa
namespace Go.Proofs.Ytinbfakpjnnagaa
open Go.RowKit Go.Vs Go.Vs.Ab
set_option maxRecDepth 100000
set_option maxHeartbeats 4000000
end Go.Proofs.Ytinbfakpjnnagaa
namespace Go.Proofs.Ytinbfakpjnnagaa
open Go.RowKit Go.Vs Go.Vs.Ab
set_option maxRecDepth 100000
set_option maxHeartbeats 4000000
end Go.Proofs.Ytinbfakpjnnagaa
namespace Go.Vs
open Go.Vs.Ab
structure Rs where
  i : Nat
  at_ : Int
  e : Int
  deriving DecidableEq
def Rs.adv (r : Rs) : Rs := ⟨r.i + 1, r.at_, r.e⟩
def Rs.fail (L : List Tk) (n : Int) (r : Rs) (e : Int) (j : Nat) : Rs := if r.e = 0 then ⟨r.i, (match L[j]? with | some t => t.at_ | none => n), e⟩ else r
def isT (L : List Tk) (r : Rs) (s : ByteArray) : Bool := decide (r.e = 0) && (match L[r.i]? with | some t => decide (t.text = s) | none => false)
def pnum (s : ByteArray) : Bool := (lts s).all digB && (decide (s ≠ ⟨#[]⟩) && (decide ((s.size : Int) ≤ 7) && (decide ((s.size : Int) = 1) || headB (fun c => !decide ((c.toNat : Int) = 48)) s)))
def mayT (sort : Int) (s : ByteArray) : Bool := if sort = 0 then pprincipal s else if sort = 1 then pprincipal s else if sort = 2 then pconstant s || pvariable s else pnum s
def nextOk (L : List Tk) (r : Rs) (sort : Int) : Bool := decide (r.e = 0) && (match L[r.i]? with | some t => mayT sort t.text | none => false)
def nextS (L : List Tk) (r : Rs) (sort : Int) : ByteArray := if nextOk L r sort then (match L[r.i]? with | some t => t.text | none => ⟨#[]⟩) else ⟨#[]⟩
def nextR (L : List Tk) (n : Int) (r : Rs) (sort : Int) : Rs := if nextOk L r sort then r.adv else r.fail L n 3 r.i
/-! ### atoms -/
/-! ### a reader never goes back, nor beyond the tokens; an error stays -/
end Go.Vs
namespace Go.Vs
end Go.Vs
namespace Go.Vs.Ab
open Go.RowKit
variable {P : Program} {X : Mem} {W0 w w' : World} {m : Mm}
/-! ### one block among others -/
end Go.Vs.Ab
namespace Go.Proofs.Ytinbfakpjnnagaa
open Go.RowKit Go.Vs Go.Vs.Ab
set_option maxRecDepth 100000
set_option maxHeartbeats 4000000
def rdC (ex : Bool) (L : List Tk) (n : Int) (r : Rs) : List AV := [.c (.sl ex L.length (L.flatMap tkC)), iA r.i, iA n, iA r.at_, iA r.e]
attribute [go_sem] rdC
variable {A : List Blk} {hw : List Hw} {b : Nat} {ex : Bool} {L : List Tk} {n : Int}
end Go.Proofs.Ytinbfakpjnnagaa
namespace Go.Proofs.Ytinbfakpjnnagaa
open Go.RowKit Go.Vs Go.Vs.Ab
set_option maxRecDepth 100000
set_option maxHeartbeats 4000000
variable {A : List Blk} {hw : List Hw} {b : Nat} {ex : Bool} {L : List Tk} {n : Int}
end Go.Proofs.Ytinbfakpjnnagaa
namespace Go.Proofs.Ytinbfakpjnnagaa
open Go.RowKit Go.Vs Go.Vs.Ab
set_option maxRecDepth 100000
set_option maxHeartbeats 4000000
variable {A : List Blk} {hw : List Hw} {b : Nat} {ex : Bool} {L : List Tk} {n : Int}
/-! ### what is said -/
end Go.Proofs.Ytinbfakpjnnagaa
namespace Go.Proofs.Ytinbfakpjnnagaa
open Go.RowKit Go.Vs Go.Vs.Ab
set_option maxRecDepth 100000
set_option maxHeartbeats 4000000
variable {A : List Blk} {hw : List Hw} {b : Nat} {ex : Bool} {L : List Tk} {n : Int}
/-! ### bodies -/
end Go.Proofs.Ytinbfakpjnnagaa
namespace Go.Vs.Ab
open Go.RowKit
variable {P : Program} {X : Mem} {W0 w w' : World} {m : Mm} {nt : Nat} {md : Region.Mode} {ops : Array Oper} {Q : Exit → Act → World → Prop} {S : World → Prop}
/-! ### the end -/
inductive TI where
  | op (i : Nat)
  | put (i : Nat)
structure Put3 where
  t : TypeId
  x : Nat
  k : Operand
  v : Nat
  d : Nat
  e : Nat
def put3 (nt : Nat) (o1 o2 o3 : Oper) : Option Put3 :=
  match o1.op, o2.op, o3.op, o1.dst, o2.dst, o1.guard, o2.guard, o3.guard with
  | .mapEntry t (.tmp x) k, .extract (.tmp d1) 1, .entryStore t' (.tmp x') (.tmp e1) (.tmp v), some d, some e, none, none, none =>
    if Nat.beq d d1 && (Nat.beq e e1 && (Nat.beq t t' && (Nat.beq x x' && (!Nat.beq x d && (!Nat.beq x e && (!Nat.beq v d && (!Nat.beq v e && (Nat.blt d nt && Nat.blt e nt)))))))) && o3.dst.isNone then some ⟨t, x, k, v, d, e⟩ else none
  | _, _, _, _, _, _, _, _ => none
def aPut3 (P : Program) (fr : Fr) (m : Mm) (t : TypeId) (x : Option AV) (k v : Option Value) : Option Mm :=
  match x, k, v with
  | some p, some a, some b => aMapPutE P m t p a b
  | _, _, _ => none
def PutM (K : Mm → Prop) : Option Mm → Prop
  | some m' => K m'
  | none => False
def PutW3 (P : Program) (fr : Fr) (m : Mm) (K : Mm → Prop) : Option Put3 → Prop
  | some p => find fr p.d = none ∧ find fr p.e = none ∧ PutM K (aPut3 P fr m p.t (find fr p.x) (opdV fr p.k) (opdV fr (.tmp p.v)))
  | none => False
def TailW (P : Program) (nt : Nat) (ops : Array Oper) : List TI → Fr → Mm → (Fr → Mm → Prop) → Prop
  | [], fr, m, Q => Q fr m
  | .op i :: r, fr, m, Q => match ops[i]? with
    | none => False
    | some o => StepW P nt ops o fr m fun _ fr' m' => TailW P nt ops r fr' m' Q
  | .put i :: r, fr, m, Q => match ops[i]?, ops[i + 1]?, ops[i + 2]? with
    | some o1, some o2, some o3 => PutW3 P fr m (fun m' => TailW P nt ops r fr m' Q) (put3 nt o1 o2 o3)
    | _, _, _ => False
/-! ### the region -/
attribute [go_sem] TailW put3 aPut3 PutM PutW3 aMapPutE Option.isNone_none
end Go.Vs.Ab
namespace Go.Vs.Ab
open Go.RowKit
variable {P : Program} {X : Mem} {W0 w w' : World} {m : Mm}
def pureA (P : Program) (fr : Fr) (o : Oper) : Option AV :=
  match o.op with
  | .move x => opd fr x
  | .assign x => opd fr x
  | .pick c a b => match opd fr c with
    | some (.c (.v (.bool t))) => match t with
      | true => opd fr a
      | false => opd fr b
    | _ => none
  | .binOp op t x y _ => match opdV fr x, opdV fr y with
    | some a, some b => av1 (pureVal P (do eqGuard op t x y a b; binOp op t a b))
    | _, _ => none
  | .unOp op _ x => match opdV fr x with
    | some a => av1 (pureVal P (Op.unary op a))
    | none => none
  | .extract x i => match opd fr x with
    | some (.tup vs) => vs[i]?
    | _ => none
  | .nilCheck x => match opd fr x with
    | some (.ptr b off) => some (.ptr b off)
    | _ => none
  | .fieldAddr s x f => match opd fr x with
    | some (.ptr b off) => aFieldAddr P s f (.ptr b off)
    | _ => none
  | .indexAddr t x ix => match opd fr x, opd fr ix with
    | some (.lsl b lo n k), some i => aIndexL P t (.lsl b lo n k) i
    | _, _ => none
  | _ => none
def PureW (P : Program) (nt : Nat) (ops : Array Oper) (fr : Fr) (o : Oper) (K : Fr → Prop) : Prop :=
  match aWanted ops fr o with
  | some false => PutW nt fr o.dst (.tup []) K
  | some true => match pureA P fr o with
    | some c => PutW nt fr o.dst c K
    | none => False
  | none => False
def OrdX (P : Program) (nt : Nat) (ops : Array Oper) : OT → Fr → Mm → (Fr → Mm → Prop) → Prop
  | .fin, fr, m, Q => Q fr m
  | .stop, _, _, _ => True
  | .one i t, fr, m, Q => match ops[i]? with
    | none => False
    | some o => PureW P nt ops fr o fun fr' => OrdX P nt ops t fr' m Q
  | .br i t more, fr, m, Q => (match ops[i]? with
    | none => False
    | some o => StepW P nt ops o fr m fun _ fr' m' => OrdX P nt ops t fr' m' Q) ∧ OrdX P nt ops more fr m Q
attribute [go_sem] OrdX PureW pureA
end Go.Vs.Ab
namespace Go.Proofs.Ytinbfakpjnnagaa
open Go.RowKit Go.Vs Go.Vs.Ab
set_option maxRecDepth 100000
set_option maxHeartbeats 4000000
variable {A : List Blk} {hw : List Hw} {b : Nat} {ex : Bool} {L : List Tk} {n : Int}
end Go.Proofs.Ytinbfakpjnnagaa
namespace Go.Vs.Ab
open Go.RowKit
variable {P : Program}
def apK {T : Type} (hw : List Hw) (k : Nat) : List T → Nat
  | [] => hw.length
  | _ :: _ => k
def apH {T : Type} (hw : List Hw) (k : Nat) (e : TypeId) (size : Nat) : List T → List Hw
  | [] => hw ++ [⟨1, e, size⟩]
  | _ :: l => hw.set k ⟨l.length + 1 + 1, e, size⟩
def ColIs {T : Type} (hw : List Hw) (k : Nat) (e : TypeId) (size : Nat) (l : List T) : Prop := l ≠ [] → hw[k]? = some ⟨l.length, e, size⟩
theorem apH_self {T : Type} {hw : List Hw} {k : Nat} {e : TypeId} {size : Nat} {l : List T} (x : T) (h : ColIs hw k e size l) : ColIs (apH hw k e size l) (apK hw k l) e size (l ++ [x]) := fun _ => by
  cases l with
  | nil => simp [apH, apK]
  | cons y l =>
    have := (List.getElem?_eq_some_iff.1 (h (by simp))).1
    simp only [apH, apK]
    rw [List.getElem?_set_self this]
    simp
theorem apH_other {T U : Type} {hw : List Hw} {k k' : Nat} {e e' : TypeId} {size size' : Nat} {l : List T} {l' : List U} (h : ColIs hw k e size l) (h' : ColIs hw k' e' size' l') (hne : e ≠ e') : ColIs (apH hw k e size l) k' e' size' l' := fun hl => by
  have g := h' hl
  have hlt := (List.getElem?_eq_some_iff.1 g).1
  cases l with
  | nil =>
    simp only [apH]
    rw [List.getElem?_append_left hlt]
    exact g
  | cons y l =>
    have g2 := h (by simp)
    simp only [apH]
    rw [List.getElem?_set_ne, g]
    intro ek
    subst ek
    rw [g2] at g
    injection g with g
    injection g with _ g _
    exact hne g
end Go.Vs.Ab
namespace Go.Proofs.Ytinbfakpjnnagaa
open Go.RowKit Go.Vs Go.Vs.Ab
set_option maxRecDepth 100000
set_option maxHeartbeats 4000000
/-! ### the plain law -/
structure Pp where
  prin : List ByteArray
  preds : List Prd
  clears : List Clr
  quota : Int
  budget : Int
  rules : List Rul
  grants : List Grt
/-! ### a policy that is collected -/
structure Ks where
  k1 : Nat
  k2 : Nat
  k3 : Nat
  k4 : Nat
  k5 : Nat
def polC (p : Pp) (k : Ks) : List AV := [colA stC k.k1 p.prin, colA prC k.k2 p.preds, colA clC k.k3 p.clears, iA p.quota, iA p.budget, colA ruC k.k4 p.rules, colA grC k.k5 p.grants]
attribute [go_sem] polC
structure KsOk (hw : List Hw) (p : Pp) (k : Ks) : Prop where
  h1 : ColIs hw k.k1 9 1 p.prin
  h2 : ColIs hw k.k2 58 2 p.preds
  h3 : ColIs hw k.k3 60 2 p.clears
  h4 : ColIs hw k.k4 53 12 p.rules
  h5 : ColIs hw k.k5 47 13 p.grants
theorem KsOk.prin {hw : List Hw} {p : Pp} {k : Ks} (h : KsOk hw p k) (x : ByteArray) : KsOk (apH hw k.k1 9 1 p.prin) { p with prin := p.prin ++ [x] } { k with k1 := apK hw k.k1 p.prin } :=
  ⟨apH_self x h.h1, apH_other h.h1 h.h2 (by decide), apH_other h.h1 h.h3 (by decide), apH_other h.h1 h.h4 (by decide), apH_other h.h1 h.h5 (by decide)⟩
theorem KsOk.preds {hw : List Hw} {p : Pp} {k : Ks} (h : KsOk hw p k) (x : Prd) : KsOk (apH hw k.k2 58 2 p.preds) { p with preds := p.preds ++ [x] } { k with k2 := apK hw k.k2 p.preds } :=
  ⟨apH_other h.h2 h.h1 (by decide), apH_self x h.h2, apH_other h.h2 h.h3 (by decide), apH_other h.h2 h.h4 (by decide), apH_other h.h2 h.h5 (by decide)⟩
theorem KsOk.clears {hw : List Hw} {p : Pp} {k : Ks} (h : KsOk hw p k) (x : Clr) : KsOk (apH hw k.k3 60 2 p.clears) { p with clears := p.clears ++ [x] } { k with k3 := apK hw k.k3 p.clears } :=
  ⟨apH_other h.h3 h.h1 (by decide), apH_other h.h3 h.h2 (by decide), apH_self x h.h3, apH_other h.h3 h.h4 (by decide), apH_other h.h3 h.h5 (by decide)⟩
theorem KsOk.rules {hw : List Hw} {p : Pp} {k : Ks} (h : KsOk hw p k) (x : Rul) : KsOk (apH hw k.k4 53 12 p.rules) { p with rules := p.rules ++ [x] } { k with k4 := apK hw k.k4 p.rules } :=
  ⟨apH_other h.h4 h.h1 (by decide), apH_other h.h4 h.h2 (by decide), apH_other h.h4 h.h3 (by decide), apH_self x h.h4, apH_other h.h4 h.h5 (by decide)⟩
theorem KsOk.grants {hw : List Hw} {p : Pp} {k : Ks} (h : KsOk hw p k) (x : Grt) : KsOk (apH hw k.k5 47 13 p.grants) { p with grants := p.grants ++ [x] } { k with k5 := apK hw k.k5 p.grants } :=
  ⟨apH_other h.h5 h.h1 (by decide), apH_other h.h5 h.h2 (by decide), apH_other h.h5 h.h3 (by decide), apH_other h.h5 h.h4 (by decide), apH_self x h.h5⟩
/-! ### says -/
variable {hw : List Hw} {ex : Bool} {L : List Tk} {n : Int}
end Go.Proofs.Ytinbfakpjnnagaa
namespace Go.Proofs.Ytinbfakpjnnagaa
open Go.RowKit Go.Vs Go.Vs.Ab
set_option maxRecDepth 100000
set_option maxHeartbeats 4000000
variable {hw : List Hw} {ex : Bool} {L : List Tk} {n : Int}
end Go.Proofs.Ytinbfakpjnnagaa
namespace Go.Proofs.Ytinbfakpjnnagaa
open Go.RowKit Go.Vs Go.Vs.Ab
set_option maxRecDepth 100000
set_option maxHeartbeats 4000000
end Go.Proofs.Ytinbfakpjnnagaa
namespace Go.Vs
open Go.Vs.Ab
def Stop (b : List UInt8) : Prop := ∀ c r, b = c :: r → varB c = false
inductive Lex : List UInt8 → List (List UInt8) → Prop
  | nil {b : List UInt8} (h : b.drop (skipC false b) = []) : Lex b []
  | cons {b : List UInt8} {c : UInt8} {t rest : List UInt8} {ts : List (List UInt8)} (h : b.drop (skipC false b) = c :: (t ++ rest))
      (ht : (kindOf c = 3 ∧ t = []) ∨ (kindOf c ≠ 3 ∧ kindOf c ≠ 0 ∧ runL (kindOf c) (c :: (t ++ rest)) = t.length + 1 ∧ t.length + 1 ≤ 255)) (hr : Lex rest ts) : Lex b ((c :: t) :: ts)
theorem toksF_step (s : ByteArray) (f i : Nat) (out : List Tk) : toksF s (f + 1) i out = if i < s.size then
      if (tokAt s i).2 ≠ 0 then (out, (i : Int), (tokAt s i).2)
      else toksF s f (skipAt s (i + (tokAt s i).1.text.size)) (out ++ [(tokAt s i).1])
    else (out, 0, 0) := rfl
theorem lex_toks {b : List UInt8} {ts : List (List UInt8)} (h : Lex b ts) : ∀ (s : ByteArray) (j : Nat), j ≤ s.size → (lts s).drop j = b → ∀ (f : Nat) (out : List Tk), s.size - skipAt s j < f → ∃ l, toksF s f (skipAt s j) out = (out ++ l, 0, 0) ∧ l.map (fun t => lts t.text) = ts := by
  induction h with
  | @nil b h =>
    intro s j hj hd f out hf
    obtain ⟨f, rfl⟩ : ∃ f', f = f' + 1 := ⟨f - 1, by omega⟩
    have hd2 : (lts s).drop (skipAt s j) = [] := by
      unfold skipAt
      rw [hd, ← List.drop_drop, hd]
      exact h
    have hge : s.size ≤ skipAt s j := by
      have := List.drop_eq_nil_iff.1 hd2
      rwa [lts_len] at this
    refine ⟨[], ?_, rfl⟩
    rw [toksF_step, if_neg (by omega), List.append_nil]
  | @cons b c t rest ts h ht _ ih =>
    intro s j hj hd f out hf
    obtain ⟨f, rfl⟩ : ∃ f', f = f' + 1 := ⟨f - 1, by omega⟩
    have hd2 : (lts s).drop (skipAt s j) = c :: (t ++ rest) := by
      unfold skipAt
      rw [hd, ← List.drop_drop, hd]
      exact h
    have hlt : skipAt s j < (lts s).length := by
      rcases Nat.lt_or_ge (skipAt s j) (lts s).length with h1 | h1
      · exact h1
      · rw [List.drop_eq_nil_of_le h1] at hd2
        cases hd2
    have hsz := lts_len s
    have hc : (lts s)[skipAt s j] = c := by
      have := drop_cons hlt
      rw [hd2] at this
      injection this with h1 _
      exact h1.symm
    have hlen : (lts s).length - skipAt s j = t.length + 1 + rest.length := by
      have := congrArg List.length hd2
      rw [List.length_drop, List.length_cons, List.length_append] at this
      omega
    have key : ∃ k : Int, tokAt s (skipAt s j) = (⟨k, s.extract (skipAt s j) (skipAt s j + (t.length + 1)), ((skipAt s j : Nat) : Int)⟩, 0) := by
      have hT := tokAt_of hlt
      rw [hc] at hT
      rcases ht with ⟨h3, rfl⟩ | ⟨h3, h0, hr, hl⟩
      · rw [if_pos h3] at hT
        exact ⟨3, hT⟩
      · have hrun : runAt (kindOf c) s (skipAt s j) = skipAt s j + (t.length + 1) := by
          unfold runAt
          rw [hd2, hr]
        rw [if_neg h3, if_neg h0, hrun, if_neg (by omega)] at hT
        exact ⟨_, hT⟩
    obtain ⟨k, hT⟩ := key
    have hsize : (s.extract (skipAt s j) (skipAt s j + (t.length + 1))).size = t.length + 1 := by
      rw [ext_size (by omega) (by omega)]
      omega
    have htext : lts (s.extract (skipAt s j) (skipAt s j + (t.length + 1))) = c :: t := by
      rw [lts_ext, hd2, Nat.add_sub_cancel_left]
      show c :: (t ++ rest).take t.length = c :: t
      rw [List.take_left]
    have hd3 : (lts s).drop (skipAt s j + (t.length + 1)) = rest := by
      rw [← List.drop_drop, hd2]
      show (t ++ rest).drop t.length = rest
      exact List.drop_left
    have hge := skipAt_ge s (skipAt s j + (t.length + 1))
    obtain ⟨l, h1, h2⟩ := ih s (skipAt s j + (t.length + 1)) (by omega) hd3 f (out ++ [⟨k, s.extract (skipAt s j) (skipAt s j + (t.length + 1)), ((skipAt s j : Nat) : Int)⟩]) (by omega)
    refine ⟨⟨k, s.extract (skipAt s j) (skipAt s j + (t.length + 1)), ((skipAt s j : Nat) : Int)⟩ :: l, ?_, ?_⟩
    · rw [toksF_step, if_pos (by omega), hT, if_neg (fun h => h rfl)]
      dsimp only
      rw [hsize, h1, List.append_assoc]
      rfl
    · rw [List.map_cons, h2]
      dsimp only
      rw [htext]
theorem lex_all {s : ByteArray} {ts : List (List UInt8)} (h : Lex (lts s) ts) (hz : s.size ≤ 65536) : (toksAll s).2.2 = 0 ∧ (toksAll s).1.map (fun t => lts t.text) = ts := by
  obtain ⟨l, h1, h2⟩ := lex_toks h s 0 (Nat.zero_le _) rfl (s.size + 1) [] (by omega)
  have ht : toks s = (l, 0, 0) := by
    unfold toks
    rw [if_neg (by omega), h1]
    rfl
  unfold toksAll
  rw [ht, if_neg (fun h => h rfl)]
  exact ⟨rfl, h2⟩
/-! ### bytes -/
theorem lower_low {c : UInt8} (h : (lowerB c || digB c) = true) : kindOf c = 1 ∧ blankB c = false ∧ ((c.toNat : Int) = 37) = False := by
  have hc : (97 ≤ c.toNat ∧ c.toNat ≤ 122) ∨ (48 ≤ c.toNat ∧ c.toNat ≤ 57) := by
    simpa [lowerB, digB] using h
  have h1 : signB c = false := by
    rw [Bool.eq_false_iff]
    intro hs
    simp only [signB, List.any_eq_true, decide_eq_true_eq] at hs
    obtain ⟨x, hx, he⟩ := hs
    have : x.toNat < 64 ∧ (x.toNat < 48 ∨ 57 < x.toNat) := by
      simp only [List.mem_cons, List.not_mem_nil, or_false] at hx
      rcases hx with rfl | rfl | rfl | rfl | rfl | rfl | rfl <;> decide
    omega
  have h2 : upperB c = false := by
    rw [Bool.eq_false_iff]
    intro hs
    simp only [upperB, Bool.and_eq_true, decide_eq_true_eq] at hs
    omega
  refine ⟨?_, ?_, eq_false (by omega)⟩
  · unfold kindOf
    rw [if_neg (by rw [h1]; exact Bool.false_ne_true), if_neg (by rw [h2]; exact Bool.false_ne_true), if_pos h]
  · rw [Bool.eq_false_iff]
    intro hs
    simp only [blankB, List.any_eq_true, decide_eq_true_eq] at hs
    obtain ⟨x, hx, he⟩ := hs
    have : x.toNat < 48 := by
      simp only [List.mem_cons, List.not_mem_nil, or_false] at hx
      rcases hx with rfl | rfl | rfl | rfl <;> decide
    omega
theorem more1 (c : UInt8) : moreB 1 c = constB c := by
  unfold moreB constB
  rw [show decide ((1 : Int) = 2) = false from rfl, Bool.false_and, Bool.or_false]
theorem const_var {c : UInt8} (h : varB c = false) : constB c = false := by
  unfold varB at h
  unfold constB
  revert h
  cases lowerB c <;> cases upperB c <;> cases digB c <;> cases underB c <;> decide
theorem run_word {k : Int} : ∀ {w b : List UInt8}, (∀ c ∈ w, moreB k c = true) → (∀ c r, b = c :: r → moreB k c = false) → runL k (w ++ b) = w.length
  | [], [], _, _ => rfl
  | [], c :: r, _, hb => by
    unfold runL
    rw [List.nil_append, List.takeWhile_cons, if_neg (by rw [hb c r rfl]; exact Bool.false_ne_true)]
  | c :: w, b, hw, hb => by
    have ih := run_word (w := w) (fun x hx => hw x (by simp [hx])) hb
    unfold runL at *
    rw [List.cons_append, List.takeWhile_cons, if_pos (hw c (by simp)), List.length_cons, ih, List.length_cons]
/-! ### how texts are put together -/
theorem lex_blank {c : UInt8} {b : List UInt8} {ts : List (List UInt8)} (hc : blankB c = true) (h : Lex b ts) : Lex (c :: b) ts := by
  have e : (c :: b).drop (skipC false (c :: b)) = b.drop (skipC false b) := by
    rw [skipC, if_pos hc, Nat.add_comm]
    rfl
  cases h with
  | nil h => exact .nil (e.trans h)
  | cons h ht hr => exact .cons (e.trans h) ht hr
theorem skip0 {c : UInt8} {b : List UInt8} (hb : blankB c = false) (hp : ((c.toNat : Int) = 37) = False) : (c :: b).drop (skipC false (c :: b)) = c :: b := by
  rw [skipC, if_neg (by rw [hb]; exact Bool.false_ne_true), if_neg (by rw [hp]; exact id)]
  rfl
theorem lex_word {c : UInt8} {w b : List UInt8} {ts : List (List UInt8)} (hc : (lowerB c || digB c) = true) (hw : ∀ x ∈ w, constB x = true) (hl : w.length + 1 ≤ 255) (hs : Stop b) (h : Lex b ts) : Lex (c :: (w ++ b)) ((c :: w) :: ts) := by
  obtain ⟨h1, h2, h3⟩ := lower_low hc
  refine .cons (skip0 h2 h3) (Or.inr ⟨by rw [h1]; decide, by rw [h1]; decide, ?_, hl⟩) h
  rw [h1]
  have hcc : moreB 1 c = true := by
    rw [more1]; unfold constB; rw [hc]; rfl
  exact run_word (w := c :: w) (fun x hx => by
    rcases List.mem_cons.1 hx with rfl | hx
    · exact hcc
    · rw [more1]; exact hw x hx) (fun x r hx => by rw [more1]; exact const_var (hs x r hx))
def LS (x : ByteArray) (tx : List ByteArray) : Prop := ∀ b ts, Lex b ts → Lex (lts x ++ b) (tx.map lts ++ ts)
def LX (x : ByteArray) (tx : List ByteArray) : Prop := ∀ b ts, Stop b → Lex b ts → Lex (lts x ++ b) (tx.map lts ++ ts)
def SH (y : ByteArray) : Prop := ∃ c r, lts y = c :: r ∧ varB c = false
theorem SH.stop {y : ByteArray} (h : SH y) (b : List UInt8) : Stop (lts y ++ b) := fun c r e => by
  obtain ⟨d, q, h1, h2⟩ := h
  rw [h1] at e
  injection e with e _
  subst e
  exact h2
theorem LS.nil : LS ⟨#[]⟩ [] := fun b ts h => h
theorem LS.x {x : ByteArray} {tx : List ByteArray} (h : LS x tx) : LX x tx := fun b ts _ hb => h b ts hb
theorem LS.blank {c : UInt8} (hc : blankB c = true) : LS ⟨#[c]⟩ [] := fun b ts h => lex_blank hc h
theorem lts_cons {x : ByteArray} (h : 0 < x.size) : ∃ c r, lts x = c :: r ∧ r.length + 1 = x.size ∧ ∀ p : UInt8 → Bool, headB p x = p c := by
  cases hl : lts x with
  | nil =>
    have := lts_len x
    rw [hl] at this
    simp at this
    omega
  | cons c r =>
    refine ⟨c, r, rfl, ?_, fun p => ?_⟩
    · have := lts_len x
      rw [hl] at this
      exact this
    · unfold headB
      rw [hl]
      rfl
theorem LX.const {x : ByteArray} (h : pconst0 x = true) (hh : headB (fun c => lowerB c || digB c) x = true) : LX x [x] := fun b ts hs hb => by
  obtain ⟨c, r, hl, hn, hp⟩ := lts_cons (headB_pos hh)
  rw [hp] at hh
  unfold pconst0 at h
  simp only [Bool.and_eq_true, decide_eq_true_eq, List.all_eq_true, hl] at h
  rw [show [x].map lts = [c :: r] by rw [List.map_singleton, hl], hl]
  exact lex_word hh (fun y hy => h.2 y (by simp [hy])) (by omega) hs hb
theorem pconstant_head {x : ByteArray} (h : pconst0 x = true) : headB (fun c => lowerB c || digB c) x = true := by
  unfold pconst0 at h
  simp only [Bool.and_eq_true, decide_eq_true_eq, List.all_eq_true] at h
  obtain ⟨c, r, hl, hn, hp⟩ := lts_cons (headB_pos h.1.2)
  have h1 := h.1.2
  rw [hp] at h1 ⊢
  have h2 := h.2 c (by rw [hl]; simp)
  unfold constB at h2
  revert h1 h2
  cases lowerB c <;> cases digB c <;> cases underB c <;> decide
theorem LX.pconst {x : ByteArray} (h : pconstant x = true) : LX x [x] := by
  unfold pconstant at h
  rw [Bool.and_eq_true] at h
  exact LX.const h.1 (pconstant_head h.1)
theorem LX.prin {x : ByteArray} (h : pprincipal x = true) : LX x [x] := by
  unfold pprincipal at h
  rw [Bool.and_eq_true] at h
  exact LX.pconst h.1
theorem LS.toks {x : ByteArray} {tx : List ByteArray} (h : LS x tx) (hz : x.size ≤ 65536) : (toksAll x).2.2 = 0 ∧ (toksAll x).1.map Tk.text = tx := by
  have h1 := h [] [] (.nil rfl)
  rw [List.append_nil, List.append_nil] at h1
  obtain ⟨h2, h3⟩ := lex_all h1 hz
  refine ⟨h2, ?_⟩
  have inj : ∀ (l : List Tk) (t : List ByteArray), l.map (fun t => lts t.text) = t.map lts → l.map Tk.text = t := fun l => by
    induction l with
    | nil => intro t h; cases t with | nil => rfl | cons => cases h
    | cons a l ih =>
      intro t h
      cases t with
      | nil => cases h
      | cons b t =>
        simp only [List.map_cons] at h ⊢
        injection h with h4 h5
        rw [ih t h5, lts_inj h4]
  exact inj _ _ h3
end Go.Vs
namespace Go.Vs
open Go.Vs.Ab
variable {L : List Tk} {n : Int} {r : Rs} {t : ByteArray} {ts rest : List ByteArray}
def Rem (L : List Tk) (r : Rs) (ts : List ByteArray) : Prop := r.e = 0 ∧ (L.drop r.i).map Tk.text = ts
theorem Rem.get (h : Rem L r (t :: ts)) : ∃ k, L[r.i]? = some k ∧ k.text = t ∧ r.i < L.length := by
  obtain ⟨_, h⟩ := h
  rcases Nat.lt_or_ge r.i L.length with hl | hl
  · rw [List.drop_eq_getElem_cons hl, List.map_cons] at h
    injection h with h1 _
    exact ⟨_, List.getElem?_eq_getElem hl, h1, hl⟩
  · rw [List.drop_eq_nil_of_le hl] at h
    cases h
theorem Rem.adv (h : Rem L r (t :: ts)) : Rem L r.adv ts := by
  obtain ⟨k, h1, h2, hl⟩ := h.get
  obtain ⟨he, h⟩ := h
  refine ⟨he, ?_⟩
  rw [List.drop_eq_getElem_cons hl, List.map_cons] at h
  injection h with _ h
theorem Rem.is (h : Rem L r (t :: ts)) (s : ByteArray) : isT L r s = decide (t = s) := by
  obtain ⟨k, h1, h2, hl⟩ := h.get
  unfold isT
  rw [h1, decide_eq_true h.1]
  dsimp only
  rw [h2, Bool.true_and]
theorem Rem.is0 (h : Rem L r []) (s : ByteArray) : isT L r s = false := by
  have hl : L.length ≤ r.i := by
    have := List.map_eq_nil_iff.1 h.2
    exact List.drop_eq_nil_iff.1 this
  unfold isT
  rw [List.getElem?_eq_none hl, Bool.and_false]
theorem Rem.not (h : Rem L r ts) {s : ByteArray} (hs : ∀ x q, ts = x :: q → x ≠ s) : isT L r s = false := by
  cases ts with
  | nil => exact h.is0 s
  | cons x q =>
    rw [h.is s]
    exact decide_eq_false (hs x q rfl)
theorem Rem.next {sort : Int} (h : Rem L r (t :: ts)) (hm : mayT sort t = true) : nextS L r sort = t ∧ Rem L (nextR L n r sort) ts := by
  obtain ⟨k, h1, h2, hl⟩ := h.get
  have ho : nextOk L r sort = true := by
    unfold nextOk
    rw [h1, decide_eq_true h.1]
    dsimp only
    rw [h2, hm]
    rfl
  refine ⟨?_, ?_⟩
  · unfold nextS
    rw [ho, if_pos rfl, h1]
    exact h2
  · unfold nextR
    rw [ho, if_pos rfl]
    exact h.adv
theorem Rem.len (h : Rem L r ts) : ts.length ≤ L.length - r.i := by
  rw [← h.2, List.length_map, List.length_drop]
  exact Nat.le_refl _
/-! ### terms -/
/-! ### atoms -/
/-! ### bodies -/
/-! ### clears -/
end Go.Vs
namespace Go.Proofs.Ytinbfakpjnnagaa
open Go.RowKit Go.Vs Go.Vs.Ab
set_option maxRecDepth 100000
/-! ### words and signs -/
theorem sh_of {y : ByteArray} {c : UInt8} {r : List UInt8} (h : lts y = c :: r) (hc : varB c = false) : SH y := ⟨c, r, h, hc⟩
theorem LS.sp : LS ⟨#[32]⟩ [] := LS.blank (by decide)
theorem SH.sp : SH ⟨#[32]⟩ := sh_of (r := []) rfl (by decide)
/-! ### atoms -/
/-! ### bodies -/
/-! ### numbers -/
/-! ### clears -/
end Go.Proofs.Ytinbfakpjnnagaa
namespace Go.Proofs.Ytinbfakpjnnagaa
open Go.RowKit Go.Vs Go.Vs.Ab
set_option maxRecDepth 100000
/-! ### tokens of a policy's text -/
/-! ### what the parser makes of them -/
variable {L : List Tk} {n : Int} {rest : List ByteArray}
/-! ### all of it -/
end Go.Proofs.Ytinbfakpjnnagaa
namespace Go.Proofs.Ytinbfakpjnnagaa
open Go.RowKit Go.Vs Go.Vs.Ab
set_option maxRecDepth 100000
/-! ### the text, as it is joined -/
theorem joinB_one' (s sep : ByteArray) : joinB [s] sep = s := by
  unfold joinB
  apply ByteArray.ext
  simp [Lib.join]
theorem pbodyK_join (l : List Atm) : ∀ k, 0 < k → k ≤ l.length → pbodyK l k = tIf ++ joinB ((l.take k).map ptext) tComma
  | 0, h, _ => absurd h (Nat.lt_irrefl 0)
  | k + 1, _, hk => by
    rw [pbodyK_next (by omega)]
    by_cases h0 : k = 0
    · subst h0
      have : l.take 1 = [l[0]] := by
        match hc : l, hk with
        | x :: r, _ => simp
      rw [if_pos rfl, this, List.map_cons, List.map_nil, joinB_one']
      show (⟨#[]⟩ : ByteArray) ++ _ = _
      apply ByteArray.ext
      simp
    · rw [if_neg h0, pbodyK_join l k (by omega) (by omega), List.take_succ_eq_append_getElem (by omega), List.map_append, List.map_cons, List.map_nil, join_snoc _ _ _ (by
        intro e
        have := congrArg List.length e
        rw [List.length_map, List.length_take, List.length_nil] at this
        omega)]
      simp only [ByteArray.append_assoc]
def clText (h : Atm) (b : List Atm) : ByteArray := ptext h ++ pbody b
theorem clText_nil (h : Atm) : clText h [] = ptext h := by
  have e : pbody [] = ⟨#[]⟩ := rfl
  unfold clText
  rw [e]
  apply ByteArray.ext
  simp
theorem clText_join (h : Atm) {b : List Atm} (hb : b ≠ []) : clText h b = (ptext h ++ tIf) ++ joinB (b.map ptext) tComma := by
  have := pbodyK_join b b.length (List.length_pos_iff.2 hb) (Nat.le_refl _)
  rw [List.take_of_length_le (Nat.le_refl _)] at this
  unfold clText pbody
  rw [this, ByteArray.append_assoc]
end Go.Proofs.Ytinbfakpjnnagaa
namespace Go.Proofs.Ytinbfakpjnnagaa
open Go.RowKit Go.Vs Go.Vs.Ab
set_option maxRecDepth 100000
set_option maxHeartbeats 4000000
theorem text13_does (c : Cls) (h1 : AtSz c.head) (h2 : ∀ a ∈ c.body, AtSz a) (h3 : c.body.length ≤ 400) : Does Try.prog 12 [clsA c] (fun m => (sA (clText c.head c.body), m)) := by
  obtain ⟨h, ex, b⟩ := c
  dsimp only at h1 h2 h3 ⊢
  have cH := text_does h h1
  refine does_of' Try.func12 rfl (by kernel_rfl) rfl Try.ntmps12 rfl rfl fun Q hQ => ?_
  repeat (first | refine tr_seq_k fun _ _ => ?_ | (refine tr_region ?_; simp only [go_sem, reduceCtorEq, Nat.reduceEqDiff, Nat.reduceLT, Nat.reduceLeDiff, Nat.reduceAdd, Nat.reduceMul, Nat.reduceSub, Nat.reduceBEq, ↓reduceIte, clsC]) | refine k_of (by assumption) ?_ | refine tr_block ?_)
  refine tr_loop_k (σ := Nat) (fun k => [(1, .ptr 0 0), (3, colA stC 0 ((b.take k).map ptext)), (7, .c (slC atC ex b)), (8, iA b.length), (9, iA k)]) (fun k => ⟨[⟨false, ([.c (.v (.string h.says)), .c (.v (.string h.pred)), .c (.v (.int .i64 h.n)), .c (.v (.bool h.a0.v)), .c (.v (.string h.a0.name)), .c (.v (.bool h.a1.v)), .c (.v (.string h.a1.name)), .c (.v (.bool h.a2.v)), .c (.v (.string h.a2.name)), .c (.v (.bool h.a3.v)), .c (.v (.string h.a3.name))] : List AV) ++ [.c (slC atC ex b)]⟩], colH 9 1 ((b.take k).map ptext)⟩)
    (fun k => k ≤ b.length) (fun k => b.length - k) 0 (Nat.zero_le _) ⟨rfl, rfl, rfl, rfl, rfl, trivial⟩ rfl ?_
  rintro k hk K hK
  repeat (first | refine tr_seq_k fun _ _ => ?_ | (refine tr_region ?_; simp only [go_sem, reduceCtorEq, Nat.reduceEqDiff, Nat.reduceLT, Nat.reduceLeDiff, Nat.reduceAdd, Nat.reduceMul, Nat.reduceSub, Nat.reduceBEq, ↓reduceIte]) | refine k_of (by assumption) ?_)
  refine tr_cond rfl (fun ht => ?_) (fun hf => ?_)
  · have hlt : k < b.length := by simpa using ht
    have ws := wrap_succ (show k ≤ 1000000000 by omega)
    have ix := idxA12 (ex := ex) hlt
    have cT := text_does b[k] (h2 _ (List.getElem_mem hlt))
    have on : (b.take (k + 1)).map ptext = (b.take k).map ptext ++ [ptext b[k]] := by rw [List.take_succ_eq_append_getElem hlt, List.map_append]; rfl
    have tl : ((b.take k).map ptext).length ≤ k := by rw [List.length_map, List.length_take]; omega
    generalize b[k] = x at *
    have hA0 := fun hp => appS hp ((b.take k).map ptext) (ptext x) (by omega)
    rw [← on] at hA0
    have hb1 := build1T (ptext x)
    repeat (first | refine tr_seq_k fun _ _ => ?_ | (refine tr_region ?_; simp only [go_sem, reduceCtorEq, Nat.reduceEqDiff, Nat.reduceLT, Nat.reduceLeDiff, Nat.reduceAdd, Nat.reduceMul, Nat.reduceSub, Nat.reduceBEq, ↓reduceIte, ix, atC, hb1, one_max, hA0, ws]) | (refine call_of (cT) ?_ ?_; (first | rfl | simp only [go_sem, reduceCtorEq, Nat.reduceEqDiff, Nat.reduceLT, Nat.reduceLeDiff, Nat.reduceAdd, Nat.reduceMul, Nat.reduceSub, Nat.reduceBEq, ↓reduceIte, ix, atC, hb1, one_max, hA0, ws, shut_col]); simp only [go_sem, reduceCtorEq, Nat.reduceEqDiff, Nat.reduceLT, Nat.reduceLeDiff, Nat.reduceAdd, Nat.reduceMul, Nat.reduceSub, Nat.reduceBEq, ↓reduceIte, ix, atC, hb1, one_max, hA0, ws]) | refine k_of (by assumption) ?_ | refine tr_block ?_ | (refine tr_skip ?_; try simp only [ex_seq, ex_block]))
    exact hK (k + 1) _ _ hlt ⟨⟨rfl, rfl, rfl, rfl, rfl, trivial⟩, Keep.of (eh := [_]) (ew := []) rfl (by rw [List.append_nil]), by simp only [lowF, low_col]; rfl, rfl, Nat.le_refl _, Nat.zero_le _⟩ (by omega)
  · have hkl : k = b.length := by
      have := of_decide_eq_false hf
      omega
    subst hkl
    rw [List.take_length]
    by_cases h0 : b = []
    · subst h0
      repeat (first | refine tr_seq_k fun _ _ => ?_ | (refine tr_region ?_; simp only [go_sem, reduceCtorEq, Nat.reduceEqDiff, Nat.reduceLT, Nat.reduceLeDiff, Nat.reduceAdd, Nat.reduceMul, Nat.reduceSub, Nat.reduceBEq, ↓reduceIte]) | refine k_of (by assumption) ?_ | (refine tr_exit ?_; try simp only [ex_seq_exit, ex_block_exit, Nat.reduceEqDiff, if_true, if_false, ex_seq, ex_block, reduceCtorEq, ↓reduceIte]))
      refine tr_cond rfl (fun ht => ?_) (fun hf => ?_)
      · repeat (first | refine tr_seq_k fun _ _ => ?_ | (refine tr_region ?_; simp only [go_sem, reduceCtorEq, Nat.reduceEqDiff, Nat.reduceLT, Nat.reduceLeDiff, Nat.reduceAdd, Nat.reduceMul, Nat.reduceSub, Nat.reduceBEq, ↓reduceIte]) | (refine call_of (cH) ?_ ?_; (first | rfl | simp only [go_sem, reduceCtorEq, Nat.reduceEqDiff, Nat.reduceLT, Nat.reduceLeDiff, Nat.reduceAdd, Nat.reduceMul, Nat.reduceSub, Nat.reduceBEq, ↓reduceIte, shut_col]); simp only [go_sem, reduceCtorEq, Nat.reduceEqDiff, Nat.reduceLT, Nat.reduceLeDiff, Nat.reduceAdd, Nat.reduceMul, Nat.reduceSub, Nat.reduceBEq, ↓reduceIte]) | refine k_of (by assumption) ?_ | (refine tr_ret ?_; try simp only [ex_seq_ret, ex_block_ret]))
        refine (hQ _ _ [sA (ptext h)] ?_ (fun m => ?_)).2 <;> simp only [go_sem, reduceCtorEq, Nat.reduceEqDiff, Nat.reduceLT, Nat.reduceLeDiff, Nat.reduceAdd, Nat.reduceMul, Nat.reduceSub, Nat.reduceBEq, ↓reduceIte, Try.f12, clText_nil]
      · cases hf
    · have hne : b.map ptext ≠ [] := fun e => h0 (List.map_eq_nil_iff.1 e)
      have hl : (b.map ptext).length = b.length := List.length_map _
      have hpos : 0 < b.length := List.length_pos_iff.2 h0
      have e0 : ((((b.map ptext).length : Nat) : Int) == 0) = false := by
        rw [beq_eq_false_iff_ne, hl]
        omega
      have pb : pbody b = tIf ++ joinB (b.map ptext) tComma := by
        have := pbodyK_join b b.length hpos (Nat.le_refl _)
        rw [List.take_of_length_le (Nat.le_refl _)] at this
        exact this
      have sb := pbody_size h2 h3
      have z1 : tIf.size = 4 := rfl
      have js : (joinB (b.map ptext) tComma).size ≤ 4004004000 := by
        rw [pb, ByteArray.size_append] at sb
        omega
      have cJ := join_does (b.map ptext) tComma false (by rw [hl]; omega) (by omega)
      have th := ptext_size h1
      have a1 := sadd (a := ptext h) (b := tIf) (n := 100000000) (by omega) (by decide)
      have a2 := sadd (a := ptext h ++ tIf) (b := joinB (b.map ptext) tComma) (n := 5000000000) (by rw [ByteArray.size_append]; omega) (by decide)
      have hr := clText_join h h0
      rw [colA_ne stC 0 hne, colH_ne _ _ hne] at *
      repeat (first | refine tr_seq_k fun _ _ => ?_ | (refine tr_region ?_; simp only [go_sem, reduceCtorEq, Nat.reduceEqDiff, Nat.reduceLT, Nat.reduceLeDiff, Nat.reduceAdd, Nat.reduceMul, Nat.reduceSub, Nat.reduceBEq, ↓reduceIte, e0]) | refine k_of (by assumption) ?_ | (refine tr_exit ?_; try simp only [ex_seq_exit, ex_block_exit, Nat.reduceEqDiff, if_true, if_false, ex_seq, ex_block, reduceCtorEq, ↓reduceIte]))
      refine tr_cond rfl (fun ht => ?_) (fun hf => ?_)
      · cases ht
      · repeat (first | refine tr_seq_k fun _ _ => ?_ | (refine tr_region ?_; simp only [go_sem, reduceCtorEq, Nat.reduceEqDiff, Nat.reduceLT, Nat.reduceLeDiff, Nat.reduceAdd, Nat.reduceMul, Nat.reduceSub, Nat.reduceBEq, ↓reduceIte, a1, a2]) | (refine call_of (cH) ?_ ?_; (first | rfl | simp only [go_sem, reduceCtorEq, Nat.reduceEqDiff, Nat.reduceLT, Nat.reduceLeDiff, Nat.reduceAdd, Nat.reduceMul, Nat.reduceSub, Nat.reduceBEq, ↓reduceIte, a1, a2, shut_col]); simp only [go_sem, reduceCtorEq, Nat.reduceEqDiff, Nat.reduceLT, Nat.reduceLeDiff, Nat.reduceAdd, Nat.reduceMul, Nat.reduceSub, Nat.reduceBEq, ↓reduceIte, a1, a2]) | (refine call_of (cJ) ?_ ?_; (first | rfl | simp only [go_sem, reduceCtorEq, Nat.reduceEqDiff, Nat.reduceLT, Nat.reduceLeDiff, Nat.reduceAdd, Nat.reduceMul, Nat.reduceSub, Nat.reduceBEq, ↓reduceIte, a1, a2, shut_col]); simp only [go_sem, reduceCtorEq, Nat.reduceEqDiff, Nat.reduceLT, Nat.reduceLeDiff, Nat.reduceAdd, Nat.reduceMul, Nat.reduceSub, Nat.reduceBEq, ↓reduceIte, a1, a2]) | refine k_of (by assumption) ?_ | (refine tr_skip ?_; try simp only [ex_seq, ex_block]) | (refine tr_ret ?_; try simp only [ex_seq_ret, ex_block_ret]))
        refine (hQ _ _ [sA ((ptext h ++ tIf) ++ joinB (b.map ptext) tComma)] ?_ (fun m => ?_)).2 <;> simp only [go_sem, reduceCtorEq, Nat.reduceEqDiff, Nat.reduceLT, Nat.reduceLeDiff, Nat.reduceAdd, Nat.reduceMul, Nat.reduceSub, Nat.reduceBEq, ↓reduceIte, Try.f12, hr]
end Go.Proofs.Ytinbfakpjnnagaa
namespace Go.Proofs.Ytinbfakpjnnagaa
open Go.RowKit Go.Vs Go.Vs.Ab
set_option maxRecDepth 100000
set_option maxHeartbeats 4000000
end Go.Proofs.Ytinbfakpjnnagaa
namespace Go.Proofs.Ytinbfakpjnnagaa
open Go.RowKit Go.Vs Go.Vs.Ab
set_option maxRecDepth 100000
set_option maxHeartbeats 4000000
theorem idxCl {ex : Bool} {l : List Cls} {k : Nat} (h : k < l.length) : aIndexAddr Try.prog 33 (.c (slC clsC ex l)) (.c (.v (.int .i64 (k : Int)))) = some (.cptr (clsC l[k] ++ (l.drop (k + 1)).flatMap clsC)) :=
  idx_R clsC 12 (fun _ => rfl) Try.underlying33 sz43 (by decide) h
theorem sl_fromE {P : Program} {T : Type} (enc : T → List CV) (k : Nat) (hk : ∀ x, (enc x).length = k) {t e : TypeId} (ht : P.underlying t = some (.slice e)) (he : tsz P e = some k) {ex : Bool} {l : List T} {j : Nat} (h0 : 0 < j) (hj : j ≤ l.length) :
    aSlice P t (.c (slC enc ex l)) (some (j : Int)) none none = some (.c (slC enc ex (l.drop j))) := by
  have h1 : Nat.ble (l.length * k) (l.flatMap enc).length = true := by
    rw [flat_length enc k hk, Nat.ble_eq]
    exact Nat.le_refl _
  have h3 : slV (.c (slC enc ex l)) = some (l.length, l.flatMap enc) := rfl
  have h4 : bnds l.length (some (j : Int)) none none = some (j, l.length, none) := by
    unfold bnds
    simp [natI_nat, hj]
  have h6 : (l.drop j).length = l.length - j := List.length_drop
  have h7 : Nat.beq j 0 = false := by
    rw [Bool.eq_false_iff]
    exact fun e => absurd (Nat.eq_of_beq_eq_true e) (by omega)
  have h8 : ((l.flatMap enc).drop (j * k)).take ((l.length - j) * k) = (l.drop j).flatMap enc := by
    rw [(flat_cut enc k hk hj).2]
    refine List.take_of_length_le ?_
    rw [flat_length enc k hk, h6]
    exact Nat.le_refl _
  simp only [aSlice, ht, h3, he, h4, h1, if_true, resl, h8, h7, Bool.false_and, if_false, Bool.false_eq_true, slC, h6]
  cases ex with
  | false => rfl
  | true => simp only [Nat.beq_refl]
theorem fromA {ex : Bool} {l : List Atm} {j : Nat} (h0 : 0 < j) (hj : j ≤ l.length) : aSlice Try.prog 41 (.c (slC atC ex l)) (some (j : Int)) none none = some (.c (slC atC ex (l.drop j))) := sl_fromE atC 11 (fun _ => rfl) Try.underlying41 sz40 h0 hj
/-! ### the example -/
def cl13 : Cls := ⟨at1, false, [leadA gr1, at2]⟩
abbrev tEx13 : ByteArray := ⟨#[97, 108, 105, 99, 101, 32, 115, 97, 121, 115, 32, 112, 40, 88, 41, 32, 105, 102, 32, 98, 111, 98, 32, 115, 97, 121, 115, 32, 112, 40, 88, 41, 44, 32, 99, 97, 114, 111, 108, 32, 115, 97, 121, 115, 32, 113, 40, 88, 41]⟩
theorem cl13_text : clText cl13.head cl13.body = tEx13 := by decide +kernel
theorem ld1_sz : AtSz (leadA gr1) := ⟨by decide, by decide, fun k => by rw [lead_arg]; exact at1_sz.2.2 k⟩
theorem lives13_does : Does Try.prog 5 [] (fun m => (bA true, m)) := by
  have c1 := pA_does eAl eP (.sl true 1 [.v (.string eX)]) at1 rfl (by kernel_rfl)
  have c2 := pA_does eCa eQ (.sl true 1 [.v (.string eX)]) at2 rfl (by kernel_rfl)
  have cG : Does Try.prog 15 [grA gr1] (fun m => (clsA cl13, m)) := gr13_does gr1 (by decide)
  have cT := text13_does cl13 at1_sz (fun a ha => by
    rcases List.mem_cons.1 ha with rfl | ha
    · exact ld1_sz
    · rw [List.mem_singleton] at ha; subst ha; exact at2_sz) (by decide)
  rw [cl13_text] at cT
  have ec : clsC cl13 = [.v (.string at1.says), .v (.string at1.pred), .v (.int .i64 at1.n), .v (.bool at1.a0.v), .v (.string at1.a0.name), .v (.bool at1.a1.v), .v (.string at1.a1.name), .v (.bool at1.a2.v), .v (.string at1.a2.name), .v (.bool at1.a3.v), .v (.string at1.a3.name), .sl false 2 ([leadA gr1, at2].flatMap atC)] := rfl
  have b2 := bld1A at2
  have eA := fun x y => bin_eqA' x y at1 at1
  simp only [pv_bind, decide_true] at eA
  refine does_of' Try.func5 rfl (by kernel_rfl) rfl Try.ntmps5 rfl rfl fun Q hQ => ?_
  repeat (first | refine tr_seq_k fun _ _ => ?_ | (refine tr_region ?_; simp only [go_sem, reduceCtorEq, Nat.reduceEqDiff, Nat.reduceLT, Nat.reduceLeDiff, Nat.reduceAdd, Nat.reduceMul, Nat.reduceSub, Nat.reduceBEq, ↓reduceIte, b2, ec, eA]) | (refine tr_draw (id := 2) follows 10000 [1, 6, 7] [0, 1, 2, 3, 4, 5, 6, 7, 8, 9, 10, 11, 12, 13, 14, 15, 16] (by kernel_rfl) ?_; simp only [go_sem, reduceCtorEq, Nat.reduceEqDiff, Nat.reduceLT, Nat.reduceLeDiff, Nat.reduceAdd, Nat.reduceMul, Nat.reduceSub, Nat.reduceBEq, ↓reduceIte, b2, ec, eA]) | (refine call_of (c1) ?_ ?_; (first | rfl | simp only [go_sem, reduceCtorEq, Nat.reduceEqDiff, Nat.reduceLT, Nat.reduceLeDiff, Nat.reduceAdd, Nat.reduceMul, Nat.reduceSub, Nat.reduceBEq, ↓reduceIte, b2, ec, eA, shut_col]); simp only [go_sem, reduceCtorEq, Nat.reduceEqDiff, Nat.reduceLT, Nat.reduceLeDiff, Nat.reduceAdd, Nat.reduceMul, Nat.reduceSub, Nat.reduceBEq, ↓reduceIte, b2, ec, eA]) | (refine call_of (c2) ?_ ?_; (first | rfl | simp only [go_sem, reduceCtorEq, Nat.reduceEqDiff, Nat.reduceLT, Nat.reduceLeDiff, Nat.reduceAdd, Nat.reduceMul, Nat.reduceSub, Nat.reduceBEq, ↓reduceIte, b2, ec, eA, shut_col]); simp only [go_sem, reduceCtorEq, Nat.reduceEqDiff, Nat.reduceLT, Nat.reduceLeDiff, Nat.reduceAdd, Nat.reduceMul, Nat.reduceSub, Nat.reduceBEq, ↓reduceIte, b2, ec, eA]) | (refine call_of (cG) ?_ ?_; (first | rfl | simp only [go_sem, reduceCtorEq, Nat.reduceEqDiff, Nat.reduceLT, Nat.reduceLeDiff, Nat.reduceAdd, Nat.reduceMul, Nat.reduceSub, Nat.reduceBEq, ↓reduceIte, b2, ec, eA, shut_col]); simp only [go_sem, reduceCtorEq, Nat.reduceEqDiff, Nat.reduceLT, Nat.reduceLeDiff, Nat.reduceAdd, Nat.reduceMul, Nat.reduceSub, Nat.reduceBEq, ↓reduceIte, b2, ec, eA]) | (refine call_of (cT) ?_ ?_; (first | rfl | simp only [go_sem, reduceCtorEq, Nat.reduceEqDiff, Nat.reduceLT, Nat.reduceLeDiff, Nat.reduceAdd, Nat.reduceMul, Nat.reduceSub, Nat.reduceBEq, ↓reduceIte, b2, ec, eA, shut_col]); simp only [go_sem, reduceCtorEq, Nat.reduceEqDiff, Nat.reduceLT, Nat.reduceLeDiff, Nat.reduceAdd, Nat.reduceMul, Nat.reduceSub, Nat.reduceBEq, ↓reduceIte, b2, ec, eA]) | refine k_of (by assumption) ?_ | (refine tr_ret ?_; try simp only [ex_seq_ret, ex_block_ret]))
  refine (hQ _ _ [bA true] ?_ (fun m => ?_)).2 <;> simp only [go_sem, reduceCtorEq, Nat.reduceEqDiff, Nat.reduceLT, Nat.reduceLeDiff, Nat.reduceAdd, Nat.reduceMul, Nat.reduceSub, Nat.reduceBEq, ↓reduceIte, Try.f5,]
  rfl
/-! ### light policies -/
structure Lt13 (p : Pol) : Prop where
  p12 : Pol12 p
  rn : p.rules.length ≤ 70
  gn : p.grants.length ≤ 70
  rules : ∀ r ∈ p.rules, AtSz r.head ∧ (∀ a ∈ r.body, AtSz a) ∧ r.body.length ≤ 9
  grants : ∀ g ∈ p.grants, g.tw.size ≤ 300 ∧ AtSz g.head ∧ (∀ a ∈ g.body, AtSz a) ∧ g.body.length ≤ 9
theorem light13 {p : Pol} (h : lightP p = true) : Lt13 p := by
  simp only [lightP, Bool.and_eq_true, Bool.not_eq_true', decide_eq_false_iff_not, List.all_eq_true] at h
  obtain ⟨⟨⟨⟨⟨⟨⟨⟨h1, h2⟩, h3⟩, h4⟩, h5⟩, h6⟩, h7⟩, h8⟩, h9⟩ := h
  have hl1 := lightTx_len h1
  have hr : ∀ r ∈ p.rules, AtSz r.head ∧ (∀ a ∈ r.body, AtSz a) ∧ r.body.length ≤ 9 := fun r hr => by
    have := h8 r hr
    simp only [gRu, Bool.and_eq_true] at this
    obtain ⟨q1, q2⟩ := lightAs_all this.2
    exact ⟨lightA_sz this.1, q1, by omega⟩
  have hg : ∀ g ∈ p.grants, g.tw.size ≤ 300 ∧ AtSz g.head ∧ (∀ a ∈ g.body, AtSz a) ∧ g.body.length ≤ 9 := fun g hg => by
    have := h9 g hg
    simp only [gGr, Bool.and_eq_true, Bool.not_eq_true', decide_eq_false_iff_not] at this
    obtain ⟨q1, q2⟩ := lightAs_all this.2.2
    exact ⟨by omega, lightA_sz this.2.1, q1, by omega⟩
  refine ⟨⟨by omega, by omega, by omega, fun c hc => ?_, by omega, by omega, fun r h => ?_, fun g h => ?_⟩, by omega, by omega, hr, hg⟩
  · have := h7 c hc
    simp only [gCl, Bool.and_eq_true, Bool.not_eq_true', decide_eq_false_iff_not] at this
    have a1 := lightTx_len this.2
    omega
  · have := (hr r h).2.2; omega
  · have := (hg g h).2.2.2; omega
theorem cls_sz {p : Pol} (h : Lt13 p) : ∀ c ∈ clausesF p, AtSz c.head ∧ (∀ a ∈ c.body, AtSz a) ∧ c.body.length ≤ 10 := fun c hc => by
  unfold clausesF at hc
  rw [List.mem_append] at hc
  rcases hc with hc | hc
  · obtain ⟨r, hr, rfl⟩ := List.mem_map.1 hc
    obtain ⟨q1, q2, q3⟩ := h.rules r hr
    exact ⟨q1, q2, Nat.le_trans q3 (by decide)⟩
  · obtain ⟨g, hg, rfl⟩ := List.mem_map.1 hc
    obtain ⟨q0, q1, q2, q3⟩ := h.grants g hg
    refine ⟨q1, fun a ha => ?_, by show (leadA g :: g.body).length ≤ 10; simp only [List.length_cons]; omega⟩
    rcases List.mem_cons.1 ha with rfl | ha
    · exact ⟨Nat.le_trans q0 (by decide), q1.2.1, fun k => by rw [lead_arg]; exact q1.2.2 k⟩
    · exact q2 a ha
theorem clauses13_does {p : Pol} (h : Lt13 p) : Does Try.prog 8 [poA p] (fun m => (.c (slC clsC (clausesF p).isEmpty (clausesF p)), m)) :=
  (clauses_does p (by have := h.rn; omega) (by have := h.gn; omega) (fun r hr => by have := (h.rules r hr).2.2; omega) (fun g hg => by have := (h.grants g hg).2.2.2; omega)).shut
theorem cls_ok {p : Pol} (hf : Formed p) : ∀ c ∈ clausesF p, pcheck3 c.head = 0 ∧ ∀ a ∈ c.body, pcheck3 a = 0 := fun c hc => by
  refine ⟨?_, fun a ha => (atom12_zero (clauses_body hf c hc a ha)).1⟩
  unfold clausesF at hc
  rw [List.mem_append] at hc
  rcases hc with hc | hc
  · obtain ⟨r, hr, rfl⟩ := List.mem_map.1 hc
    exact (atom12_zero (hf.rules r hr).1).1
  · obtain ⟨g, hg, rfl⟩ := List.mem_map.1 hc
    exact (atom12_zero (hf.grants g hg).2.1).1
theorem sum13 {p : Pol} (h : Lt13 p) : IntKind.i64.wrap ((p.rules.length : Int) + (p.grants.length : Int)) = (((clausesF p).length : Nat) : Int) := by
  have := h.rn
  have := h.gn
  rw [clauses_len, wrap_in (by omega)]
  omega
end Go.Proofs.Ytinbfakpjnnagaa
namespace Go.Proofs.Ytinbfakpjnnagaa
open Go.RowKit Go.Vs Go.Vs.Ab
set_option maxRecDepth 100000
set_option maxHeartbeats 4000000
abbrev u1 : Value := .int .i64 1
theorem zaI13 : tzeroA Try.prog 3 = some (.c (.v (.int .i64 0))) := by kernel_rfl
theorem cls_grant {p : Pol} {i : Nat} (h : p.rules.length ≤ i) (hi : i < (clausesF p).length) : ∃ (hj : i - p.rules.length < p.grants.length), (clausesF p)[i] = grCls p.grants[i - p.rules.length] := by
  have hl := clauses_len p
  have hj : i - p.rules.length < p.grants.length := by omega
  have e : (clausesF p)[i]? = some (grCls p.grants[i - p.rules.length]) := by
    unfold clausesF
    rw [List.getElem?_append_right (by rw [List.length_map]; exact h), List.getElem?_map, List.length_map, List.getElem?_eq_getElem hj]
    rfl
  rw [List.getElem?_eq_getElem hi] at e
  exact ⟨hj, Option.some.inj e⟩
theorem ranges13_does (p : Pol) : Does Try.prog 3 [poA p] (fun m => (bA true, m)) := by
  have c0 := lives13_does
  have cL := lightP_does p
  cases h1 : lightP p with
  | false =>
    rw [h1] at cL
    refine does_of' Try.func3 rfl (by kernel_rfl) rfl Try.ntmps3 rfl rfl fun Q hQ => ?_
    repeat (first | refine tr_seq_k fun _ _ => ?_ | (refine tr_region ?_; simp only [go_sem, reduceCtorEq, Nat.reduceEqDiff, Nat.reduceLT, Nat.reduceLeDiff, Nat.reduceAdd, Nat.reduceMul, Nat.reduceSub, Nat.reduceBEq, ↓reduceIte]) | (refine tr_draw (id := 15) follows 10000 [9] [0, 1, 2, 3, 4, 5, 6, 7, 8, 9, 10] (by kernel_rfl) ?_; simp only [go_sem, reduceCtorEq, Nat.reduceEqDiff, Nat.reduceLT, Nat.reduceLeDiff, Nat.reduceAdd, Nat.reduceMul, Nat.reduceSub, Nat.reduceBEq, ↓reduceIte]) | (refine tr_draw (id := 30) follows 10000 [43] [0, 1, 2, 3, 4, 5, 6, 7, 8, 9, 10, 11, 12, 13, 14, 15, 16, 17, 18, 19, 20, 21, 22, 23, 24, 25, 26, 27, 28, 29, 30, 31, 32, 33, 34, 35, 36, 37, 38, 39, 40, 41, 42, 43, 44, 45] (by kernel_rfl) ?_; simp only [go_sem, reduceCtorEq, Nat.reduceEqDiff, Nat.reduceLT, Nat.reduceLeDiff, Nat.reduceAdd, Nat.reduceMul, Nat.reduceSub, Nat.reduceBEq, ↓reduceIte]) | (refine call_of (c0) ?_ ?_; (first | rfl | simp only [go_sem, reduceCtorEq, Nat.reduceEqDiff, Nat.reduceLT, Nat.reduceLeDiff, Nat.reduceAdd, Nat.reduceMul, Nat.reduceSub, Nat.reduceBEq, ↓reduceIte, shut_col]); simp only [go_sem, reduceCtorEq, Nat.reduceEqDiff, Nat.reduceLT, Nat.reduceLeDiff, Nat.reduceAdd, Nat.reduceMul, Nat.reduceSub, Nat.reduceBEq, ↓reduceIte]) | refine k_of (by assumption) ?_ | refine tr_block ?_ | refine tr_scope ?_ | (refine tr_skip ?_; try simp only [ex_seq, ex_block]) | (refine tr_label ?_; try simp only [ex_seq, ex_block]) | (refine tr_exit ?_; try simp only [ex_seq_exit, ex_block_exit, Nat.reduceEqDiff, if_true, if_false, ex_seq, ex_block, reduceCtorEq, ↓reduceIte]) | (refine tr_ret ?_; try simp only [ex_seq_ret, ex_block_ret]))
    refine tr_cond rfl (fun ht => ?_) (fun hf => ?_)
    · cases ht
    · repeat (first | refine tr_seq_k fun _ _ => ?_ | (refine tr_region ?_; simp only [go_sem, reduceCtorEq, Nat.reduceEqDiff, Nat.reduceLT, Nat.reduceLeDiff, Nat.reduceAdd, Nat.reduceMul, Nat.reduceSub, Nat.reduceBEq, ↓reduceIte]) | (refine tr_draw (id := 15) follows 10000 [9] [0, 1, 2, 3, 4, 5, 6, 7, 8, 9, 10] (by kernel_rfl) ?_; simp only [go_sem, reduceCtorEq, Nat.reduceEqDiff, Nat.reduceLT, Nat.reduceLeDiff, Nat.reduceAdd, Nat.reduceMul, Nat.reduceSub, Nat.reduceBEq, ↓reduceIte]) | (refine tr_draw (id := 30) follows 10000 [43] [0, 1, 2, 3, 4, 5, 6, 7, 8, 9, 10, 11, 12, 13, 14, 15, 16, 17, 18, 19, 20, 21, 22, 23, 24, 25, 26, 27, 28, 29, 30, 31, 32, 33, 34, 35, 36, 37, 38, 39, 40, 41, 42, 43, 44, 45] (by kernel_rfl) ?_; simp only [go_sem, reduceCtorEq, Nat.reduceEqDiff, Nat.reduceLT, Nat.reduceLeDiff, Nat.reduceAdd, Nat.reduceMul, Nat.reduceSub, Nat.reduceBEq, ↓reduceIte]) | (refine call_of (cL) ?_ ?_; (first | rfl | simp only [go_sem, reduceCtorEq, Nat.reduceEqDiff, Nat.reduceLT, Nat.reduceLeDiff, Nat.reduceAdd, Nat.reduceMul, Nat.reduceSub, Nat.reduceBEq, ↓reduceIte, shut_col]); simp only [go_sem, reduceCtorEq, Nat.reduceEqDiff, Nat.reduceLT, Nat.reduceLeDiff, Nat.reduceAdd, Nat.reduceMul, Nat.reduceSub, Nat.reduceBEq, ↓reduceIte]) | refine k_of (by assumption) ?_ | refine tr_block ?_ | refine tr_scope ?_ | (refine tr_skip ?_; try simp only [ex_seq, ex_block]) | (refine tr_label ?_; try simp only [ex_seq, ex_block]) | (refine tr_exit ?_; try simp only [ex_seq_exit, ex_block_exit, Nat.reduceEqDiff, if_true, if_false, ex_seq, ex_block, reduceCtorEq, ↓reduceIte]) | (refine tr_ret ?_; try simp only [ex_seq_ret, ex_block_ret]))
      refine tr_cond rfl (fun ht => ?_) (fun hf => ?_)
      · repeat (first | refine tr_seq_k fun _ _ => ?_ | (refine tr_region ?_; simp only [go_sem, reduceCtorEq, Nat.reduceEqDiff, Nat.reduceLT, Nat.reduceLeDiff, Nat.reduceAdd, Nat.reduceMul, Nat.reduceSub, Nat.reduceBEq, ↓reduceIte]) | (refine tr_draw (id := 15) follows 10000 [9] [0, 1, 2, 3, 4, 5, 6, 7, 8, 9, 10] (by kernel_rfl) ?_; simp only [go_sem, reduceCtorEq, Nat.reduceEqDiff, Nat.reduceLT, Nat.reduceLeDiff, Nat.reduceAdd, Nat.reduceMul, Nat.reduceSub, Nat.reduceBEq, ↓reduceIte]) | (refine tr_draw (id := 30) follows 10000 [43] [0, 1, 2, 3, 4, 5, 6, 7, 8, 9, 10, 11, 12, 13, 14, 15, 16, 17, 18, 19, 20, 21, 22, 23, 24, 25, 26, 27, 28, 29, 30, 31, 32, 33, 34, 35, 36, 37, 38, 39, 40, 41, 42, 43, 44, 45] (by kernel_rfl) ?_; simp only [go_sem, reduceCtorEq, Nat.reduceEqDiff, Nat.reduceLT, Nat.reduceLeDiff, Nat.reduceAdd, Nat.reduceMul, Nat.reduceSub, Nat.reduceBEq, ↓reduceIte]) | refine k_of (by assumption) ?_ | refine tr_block ?_ | refine tr_scope ?_ | (refine tr_skip ?_; try simp only [ex_seq, ex_block]) | (refine tr_label ?_; try simp only [ex_seq, ex_block]) | (refine tr_exit ?_; try simp only [ex_seq_exit, ex_block_exit, Nat.reduceEqDiff, if_true, if_false, ex_seq, ex_block, reduceCtorEq, ↓reduceIte]) | (refine tr_ret ?_; try simp only [ex_seq_ret, ex_block_ret]))
        refine (hQ _ _ [bA true] ?_ (fun m => ?_)).2 <;> simp only [go_sem, reduceCtorEq, Nat.reduceEqDiff, Nat.reduceLT, Nat.reduceLeDiff, Nat.reduceAdd, Nat.reduceMul, Nat.reduceSub, Nat.reduceBEq, ↓reduceIte, Try.f3,]
      · cases hf
  | true =>
    rw [h1] at cL
    have hL := light13 h1
    have cK := check12_does p hL.p12 (fun r hr => (hL.rules r hr).1)
    cases h2 : decide (check12 p = 0) with
    | false =>
      refine does_of' Try.func3 rfl (by kernel_rfl) rfl Try.ntmps3 rfl rfl fun Q hQ => ?_
      repeat (first | refine tr_seq_k fun _ _ => ?_ | (refine tr_region ?_; simp only [go_sem, reduceCtorEq, Nat.reduceEqDiff, Nat.reduceLT, Nat.reduceLeDiff, Nat.reduceAdd, Nat.reduceMul, Nat.reduceSub, Nat.reduceBEq, ↓reduceIte]) | (refine tr_draw (id := 15) follows 10000 [9] [0, 1, 2, 3, 4, 5, 6, 7, 8, 9, 10] (by kernel_rfl) ?_; simp only [go_sem, reduceCtorEq, Nat.reduceEqDiff, Nat.reduceLT, Nat.reduceLeDiff, Nat.reduceAdd, Nat.reduceMul, Nat.reduceSub, Nat.reduceBEq, ↓reduceIte]) | (refine tr_draw (id := 30) follows 10000 [43] [0, 1, 2, 3, 4, 5, 6, 7, 8, 9, 10, 11, 12, 13, 14, 15, 16, 17, 18, 19, 20, 21, 22, 23, 24, 25, 26, 27, 28, 29, 30, 31, 32, 33, 34, 35, 36, 37, 38, 39, 40, 41, 42, 43, 44, 45] (by kernel_rfl) ?_; simp only [go_sem, reduceCtorEq, Nat.reduceEqDiff, Nat.reduceLT, Nat.reduceLeDiff, Nat.reduceAdd, Nat.reduceMul, Nat.reduceSub, Nat.reduceBEq, ↓reduceIte]) | (refine call_of (c0) ?_ ?_; (first | rfl | simp only [go_sem, reduceCtorEq, Nat.reduceEqDiff, Nat.reduceLT, Nat.reduceLeDiff, Nat.reduceAdd, Nat.reduceMul, Nat.reduceSub, Nat.reduceBEq, ↓reduceIte, shut_col]); simp only [go_sem, reduceCtorEq, Nat.reduceEqDiff, Nat.reduceLT, Nat.reduceLeDiff, Nat.reduceAdd, Nat.reduceMul, Nat.reduceSub, Nat.reduceBEq, ↓reduceIte]) | refine k_of (by assumption) ?_ | refine tr_block ?_ | refine tr_scope ?_ | (refine tr_skip ?_; try simp only [ex_seq, ex_block]) | (refine tr_label ?_; try simp only [ex_seq, ex_block]) | (refine tr_exit ?_; try simp only [ex_seq_exit, ex_block_exit, Nat.reduceEqDiff, if_true, if_false, ex_seq, ex_block, reduceCtorEq, ↓reduceIte]) | (refine tr_ret ?_; try simp only [ex_seq_ret, ex_block_ret]))
      refine tr_cond rfl (fun ht => ?_) (fun hf => ?_)
      · cases ht
      · repeat (first | refine tr_seq_k fun _ _ => ?_ | (refine tr_region ?_; simp only [go_sem, reduceCtorEq, Nat.reduceEqDiff, Nat.reduceLT, Nat.reduceLeDiff, Nat.reduceAdd, Nat.reduceMul, Nat.reduceSub, Nat.reduceBEq, ↓reduceIte, h2]) | (refine tr_draw (id := 15) follows 10000 [9] [0, 1, 2, 3, 4, 5, 6, 7, 8, 9, 10] (by kernel_rfl) ?_; simp only [go_sem, reduceCtorEq, Nat.reduceEqDiff, Nat.reduceLT, Nat.reduceLeDiff, Nat.reduceAdd, Nat.reduceMul, Nat.reduceSub, Nat.reduceBEq, ↓reduceIte, h2]) | (refine tr_draw (id := 30) follows 10000 [43] [0, 1, 2, 3, 4, 5, 6, 7, 8, 9, 10, 11, 12, 13, 14, 15, 16, 17, 18, 19, 20, 21, 22, 23, 24, 25, 26, 27, 28, 29, 30, 31, 32, 33, 34, 35, 36, 37, 38, 39, 40, 41, 42, 43, 44, 45] (by kernel_rfl) ?_; simp only [go_sem, reduceCtorEq, Nat.reduceEqDiff, Nat.reduceLT, Nat.reduceLeDiff, Nat.reduceAdd, Nat.reduceMul, Nat.reduceSub, Nat.reduceBEq, ↓reduceIte, h2]) | (refine call_of (cL) ?_ ?_; (first | rfl | simp only [go_sem, reduceCtorEq, Nat.reduceEqDiff, Nat.reduceLT, Nat.reduceLeDiff, Nat.reduceAdd, Nat.reduceMul, Nat.reduceSub, Nat.reduceBEq, ↓reduceIte, h2, shut_col]); simp only [go_sem, reduceCtorEq, Nat.reduceEqDiff, Nat.reduceLT, Nat.reduceLeDiff, Nat.reduceAdd, Nat.reduceMul, Nat.reduceSub, Nat.reduceBEq, ↓reduceIte, h2]) | (refine call_of (cK) ?_ ?_; (first | rfl | simp only [go_sem, reduceCtorEq, Nat.reduceEqDiff, Nat.reduceLT, Nat.reduceLeDiff, Nat.reduceAdd, Nat.reduceMul, Nat.reduceSub, Nat.reduceBEq, ↓reduceIte, h2, shut_col]); simp only [go_sem, reduceCtorEq, Nat.reduceEqDiff, Nat.reduceLT, Nat.reduceLeDiff, Nat.reduceAdd, Nat.reduceMul, Nat.reduceSub, Nat.reduceBEq, ↓reduceIte, h2]) | refine k_of (by assumption) ?_ | refine tr_block ?_ | refine tr_scope ?_ | (refine tr_skip ?_; try simp only [ex_seq, ex_block]) | (refine tr_label ?_; try simp only [ex_seq, ex_block]) | (refine tr_exit ?_; try simp only [ex_seq_exit, ex_block_exit, Nat.reduceEqDiff, if_true, if_false, ex_seq, ex_block, reduceCtorEq, ↓reduceIte]) | (refine tr_ret ?_; try simp only [ex_seq_ret, ex_block_ret]))
        refine tr_cond rfl (fun ht => ?_) (fun hf => ?_)
        · repeat (first | refine tr_seq_k fun _ _ => ?_ | (refine tr_region ?_; simp only [go_sem, reduceCtorEq, Nat.reduceEqDiff, Nat.reduceLT, Nat.reduceLeDiff, Nat.reduceAdd, Nat.reduceMul, Nat.reduceSub, Nat.reduceBEq, ↓reduceIte]) | (refine tr_draw (id := 15) follows 10000 [9] [0, 1, 2, 3, 4, 5, 6, 7, 8, 9, 10] (by kernel_rfl) ?_; simp only [go_sem, reduceCtorEq, Nat.reduceEqDiff, Nat.reduceLT, Nat.reduceLeDiff, Nat.reduceAdd, Nat.reduceMul, Nat.reduceSub, Nat.reduceBEq, ↓reduceIte]) | (refine tr_draw (id := 30) follows 10000 [43] [0, 1, 2, 3, 4, 5, 6, 7, 8, 9, 10, 11, 12, 13, 14, 15, 16, 17, 18, 19, 20, 21, 22, 23, 24, 25, 26, 27, 28, 29, 30, 31, 32, 33, 34, 35, 36, 37, 38, 39, 40, 41, 42, 43, 44, 45] (by kernel_rfl) ?_; simp only [go_sem, reduceCtorEq, Nat.reduceEqDiff, Nat.reduceLT, Nat.reduceLeDiff, Nat.reduceAdd, Nat.reduceMul, Nat.reduceSub, Nat.reduceBEq, ↓reduceIte]) | refine k_of (by assumption) ?_ | refine tr_block ?_ | refine tr_scope ?_ | (refine tr_skip ?_; try simp only [ex_seq, ex_block]) | (refine tr_label ?_; try simp only [ex_seq, ex_block]) | (refine tr_exit ?_; try simp only [ex_seq_exit, ex_block_exit, Nat.reduceEqDiff, if_true, if_false, ex_seq, ex_block, reduceCtorEq, ↓reduceIte]) | (refine tr_ret ?_; try simp only [ex_seq_ret, ex_block_ret]))
          refine (hQ _ _ [bA true] ?_ (fun m => ?_)).2 <;> simp only [go_sem, reduceCtorEq, Nat.reduceEqDiff, Nat.reduceLT, Nat.reduceLeDiff, Nat.reduceAdd, Nat.reduceMul, Nat.reduceSub, Nat.reduceBEq, ↓reduceIte, Try.f3,]
        · cases hf
    | true =>
      have hF := check12_formed (of_decide_eq_true h2)
      have cC := clauses13_does hL
      have hsz := cls_sz hL
      have hsum := sum13 hL
      have hlen := clauses_len p
      have hll : (clausesF p).length ≤ 140 := by rw [hlen]; have := hL.rn; have := hL.gn; omega
      have hbody := clauses_body hF
      have hrange := clauses_range hF
      have hhead := fun c hc => (cls_ok hF c hc).1
      have hgr := fun i => cls_grant (p := p) (i := i)
      have hP12 := hL.p12
      have hgn := hL.gn
      have hrn := hL.rn
      generalize hC : clausesF p = C at *
      have eeq : decide ((C.length : Int) = (C.length : Int)) = true := decide_eq_true rfl
      refine does_of' Try.func3 rfl (by kernel_rfl) rfl Try.ntmps3 rfl rfl fun Q hQ => ?_
      repeat (first | refine tr_seq_k fun _ _ => ?_ | (refine tr_region ?_; simp only [go_sem, reduceCtorEq, Nat.reduceEqDiff, Nat.reduceLT, Nat.reduceLeDiff, Nat.reduceAdd, Nat.reduceMul, Nat.reduceSub, Nat.reduceBEq, ↓reduceIte]) | (refine tr_draw (id := 15) follows 10000 [9] [0, 1, 2, 3, 4, 5, 6, 7, 8, 9, 10] (by kernel_rfl) ?_; simp only [go_sem, reduceCtorEq, Nat.reduceEqDiff, Nat.reduceLT, Nat.reduceLeDiff, Nat.reduceAdd, Nat.reduceMul, Nat.reduceSub, Nat.reduceBEq, ↓reduceIte]) | (refine tr_draw (id := 30) follows 10000 [43] [0, 1, 2, 3, 4, 5, 6, 7, 8, 9, 10, 11, 12, 13, 14, 15, 16, 17, 18, 19, 20, 21, 22, 23, 24, 25, 26, 27, 28, 29, 30, 31, 32, 33, 34, 35, 36, 37, 38, 39, 40, 41, 42, 43, 44, 45] (by kernel_rfl) ?_; simp only [go_sem, reduceCtorEq, Nat.reduceEqDiff, Nat.reduceLT, Nat.reduceLeDiff, Nat.reduceAdd, Nat.reduceMul, Nat.reduceSub, Nat.reduceBEq, ↓reduceIte]) | (refine call_of (c0) ?_ ?_; (first | rfl | simp only [go_sem, reduceCtorEq, Nat.reduceEqDiff, Nat.reduceLT, Nat.reduceLeDiff, Nat.reduceAdd, Nat.reduceMul, Nat.reduceSub, Nat.reduceBEq, ↓reduceIte, shut_col]); simp only [go_sem, reduceCtorEq, Nat.reduceEqDiff, Nat.reduceLT, Nat.reduceLeDiff, Nat.reduceAdd, Nat.reduceMul, Nat.reduceSub, Nat.reduceBEq, ↓reduceIte]) | refine k_of (by assumption) ?_ | refine tr_block ?_ | refine tr_scope ?_ | (refine tr_skip ?_; try simp only [ex_seq, ex_block]) | (refine tr_label ?_; try simp only [ex_seq, ex_block]) | (refine tr_exit ?_; try simp only [ex_seq_exit, ex_block_exit, Nat.reduceEqDiff, if_true, if_false, ex_seq, ex_block, reduceCtorEq, ↓reduceIte]) | (refine tr_ret ?_; try simp only [ex_seq_ret, ex_block_ret]))
      refine tr_cond rfl (fun ht => ?_) (fun hf => ?_)
      · cases ht
      · repeat (first | refine tr_seq_k fun _ _ => ?_ | (refine tr_region ?_; simp only [go_sem, reduceCtorEq, Nat.reduceEqDiff, Nat.reduceLT, Nat.reduceLeDiff, Nat.reduceAdd, Nat.reduceMul, Nat.reduceSub, Nat.reduceBEq, ↓reduceIte, h2]) | (refine tr_draw (id := 15) follows 10000 [9] [0, 1, 2, 3, 4, 5, 6, 7, 8, 9, 10] (by kernel_rfl) ?_; simp only [go_sem, reduceCtorEq, Nat.reduceEqDiff, Nat.reduceLT, Nat.reduceLeDiff, Nat.reduceAdd, Nat.reduceMul, Nat.reduceSub, Nat.reduceBEq, ↓reduceIte, h2]) | (refine tr_draw (id := 30) follows 10000 [43] [0, 1, 2, 3, 4, 5, 6, 7, 8, 9, 10, 11, 12, 13, 14, 15, 16, 17, 18, 19, 20, 21, 22, 23, 24, 25, 26, 27, 28, 29, 30, 31, 32, 33, 34, 35, 36, 37, 38, 39, 40, 41, 42, 43, 44, 45] (by kernel_rfl) ?_; simp only [go_sem, reduceCtorEq, Nat.reduceEqDiff, Nat.reduceLT, Nat.reduceLeDiff, Nat.reduceAdd, Nat.reduceMul, Nat.reduceSub, Nat.reduceBEq, ↓reduceIte, h2]) | (refine call_of (cL) ?_ ?_; (first | rfl | simp only [go_sem, reduceCtorEq, Nat.reduceEqDiff, Nat.reduceLT, Nat.reduceLeDiff, Nat.reduceAdd, Nat.reduceMul, Nat.reduceSub, Nat.reduceBEq, ↓reduceIte, h2, shut_col]); simp only [go_sem, reduceCtorEq, Nat.reduceEqDiff, Nat.reduceLT, Nat.reduceLeDiff, Nat.reduceAdd, Nat.reduceMul, Nat.reduceSub, Nat.reduceBEq, ↓reduceIte, h2]) | (refine call_of (cK) ?_ ?_; (first | rfl | simp only [go_sem, reduceCtorEq, Nat.reduceEqDiff, Nat.reduceLT, Nat.reduceLeDiff, Nat.reduceAdd, Nat.reduceMul, Nat.reduceSub, Nat.reduceBEq, ↓reduceIte, h2, shut_col]); simp only [go_sem, reduceCtorEq, Nat.reduceEqDiff, Nat.reduceLT, Nat.reduceLeDiff, Nat.reduceAdd, Nat.reduceMul, Nat.reduceSub, Nat.reduceBEq, ↓reduceIte, h2]) | refine k_of (by assumption) ?_ | refine tr_block ?_ | refine tr_scope ?_ | (refine tr_skip ?_; try simp only [ex_seq, ex_block]) | (refine tr_label ?_; try simp only [ex_seq, ex_block]) | (refine tr_exit ?_; try simp only [ex_seq_exit, ex_block_exit, Nat.reduceEqDiff, if_true, if_false, ex_seq, ex_block, reduceCtorEq, ↓reduceIte]) | (refine tr_ret ?_; try simp only [ex_seq_ret, ex_block_ret]))
        refine tr_cond rfl (fun ht => ?_) (fun hf => ?_)
        · cases ht
        · repeat (first | refine tr_seq_k fun _ _ => ?_ | (refine tr_region ?_; simp only [go_sem, reduceCtorEq, Nat.reduceEqDiff, Nat.reduceLT, Nat.reduceLeDiff, Nat.reduceAdd, Nat.reduceMul, Nat.reduceSub, Nat.reduceBEq, ↓reduceIte, hsum, eeq]) | (refine tr_draw (id := 15) follows 10000 [9] [0, 1, 2, 3, 4, 5, 6, 7, 8, 9, 10] (by kernel_rfl) ?_; simp only [go_sem, reduceCtorEq, Nat.reduceEqDiff, Nat.reduceLT, Nat.reduceLeDiff, Nat.reduceAdd, Nat.reduceMul, Nat.reduceSub, Nat.reduceBEq, ↓reduceIte, hsum, eeq]) | (refine tr_draw (id := 30) follows 10000 [43] [0, 1, 2, 3, 4, 5, 6, 7, 8, 9, 10, 11, 12, 13, 14, 15, 16, 17, 18, 19, 20, 21, 22, 23, 24, 25, 26, 27, 28, 29, 30, 31, 32, 33, 34, 35, 36, 37, 38, 39, 40, 41, 42, 43, 44, 45] (by kernel_rfl) ?_; simp only [go_sem, reduceCtorEq, Nat.reduceEqDiff, Nat.reduceLT, Nat.reduceLeDiff, Nat.reduceAdd, Nat.reduceMul, Nat.reduceSub, Nat.reduceBEq, ↓reduceIte, hsum, eeq]) | (refine call_of (cC) ?_ ?_; (first | rfl | simp only [go_sem, reduceCtorEq, Nat.reduceEqDiff, Nat.reduceLT, Nat.reduceLeDiff, Nat.reduceAdd, Nat.reduceMul, Nat.reduceSub, Nat.reduceBEq, ↓reduceIte, hsum, eeq, shut_col]); simp only [go_sem, reduceCtorEq, Nat.reduceEqDiff, Nat.reduceLT, Nat.reduceLeDiff, Nat.reduceAdd, Nat.reduceMul, Nat.reduceSub, Nat.reduceBEq, ↓reduceIte, hsum, eeq]) | refine k_of (by assumption) ?_ | refine tr_block ?_ | refine tr_scope ?_ | (refine tr_skip ?_; try simp only [ex_seq, ex_block]) | (refine tr_label ?_; try simp only [ex_seq, ex_block]) | (refine tr_exit ?_; try simp only [ex_seq_exit, ex_block_exit, Nat.reduceEqDiff, if_true, if_false, ex_seq, ex_block, reduceCtorEq, ↓reduceIte]) | (refine tr_ret ?_; try simp only [ex_seq_ret, ex_block_ret]))
          refine tr_cond rfl (fun ht => ?_) (fun hf => ?_)
          · cases ht
          · repeat (first | refine tr_seq_k fun _ _ => ?_ | (refine tr_region ?_; simp only [go_sem, reduceCtorEq, Nat.reduceEqDiff, Nat.reduceLT, Nat.reduceLeDiff, Nat.reduceAdd, Nat.reduceMul, Nat.reduceSub, Nat.reduceBEq, ↓reduceIte]) | (refine tr_draw (id := 15) follows 10000 [9] [0, 1, 2, 3, 4, 5, 6, 7, 8, 9, 10] (by kernel_rfl) ?_; simp only [go_sem, reduceCtorEq, Nat.reduceEqDiff, Nat.reduceLT, Nat.reduceLeDiff, Nat.reduceAdd, Nat.reduceMul, Nat.reduceSub, Nat.reduceBEq, ↓reduceIte]) | (refine tr_draw (id := 30) follows 10000 [43] [0, 1, 2, 3, 4, 5, 6, 7, 8, 9, 10, 11, 12, 13, 14, 15, 16, 17, 18, 19, 20, 21, 22, 23, 24, 25, 26, 27, 28, 29, 30, 31, 32, 33, 34, 35, 36, 37, 38, 39, 40, 41, 42, 43, 44, 45] (by kernel_rfl) ?_; simp only [go_sem, reduceCtorEq, Nat.reduceEqDiff, Nat.reduceLT, Nat.reduceLeDiff, Nat.reduceAdd, Nat.reduceMul, Nat.reduceSub, Nat.reduceBEq, ↓reduceIte]) | refine k_of (by assumption) ?_ | refine tr_block ?_ | refine tr_scope ?_ | (refine tr_skip ?_; try simp only [ex_seq, ex_block]) | (refine tr_label ?_; try simp only [ex_seq, ex_block]) | (refine tr_exit ?_; try simp only [ex_seq_exit, ex_block_exit, Nat.reduceEqDiff, if_true, if_false, ex_seq, ex_block, reduceCtorEq, ↓reduceIte]) | (refine tr_ret ?_; try simp only [ex_seq_ret, ex_block_ret]))
            refine tr_loop_k (σ := Nat) (fun i => [(1, .ptr 0 0), (3, .c (slC clsC C.isEmpty C)), (4, iA i)]) (fun _ => ⟨[⟨false, [.c (slC stC p.e1 p.prin), .c (slC prC p.e2 p.preds), .c (slC clC p.e3 p.clears), iA p.quota, iA p.budget, .c (slC ruC p.e4 p.rules), .c (slC grC p.e5 p.grants)]⟩], []⟩) (fun i => i ≤ C.length) (fun i => C.length - i) 0 (Nat.zero_le _) ⟨rfl, rfl, rfl, trivial⟩ rfl ?_
            rintro i hi K hK
            by_cases hil : i < C.length
            · have q1 : decide ((i : Int) < (C.length : Nat)) = true := decide_eq_true (by omega)
              have ws := wrap_succ (show i ≤ 1000000000 by omega)
              have ix := idxCl (ex := C.isEmpty) hil
              obtain ⟨s1, s2, s3⟩ := hsz _ (List.getElem_mem hil)
              have g1 := hhead _ (List.getElem_mem hil)
              have g2 := hbody _ (List.getElem_mem hil)
              have g3 := hrange _ (List.getElem_mem hil)
              have hgi := fun h => hgr i h hil
              generalize C[i] = x at *
              have okx : Atm.okay x.head := okay_of s1 (check3_zero g1).2.2.1 (check3_zero g1).2.2.2.1
              have cV := vars_does okx
              have hVl : (pnames x.head true).length ≤ 4 := Nat.le_trans (pnames_len x.head true x.head.count) x.head.count_le
              have hVin : ∀ v ∈ pnames x.head true, v ∈ seenK x.body x.body.length 0 := fun v hv => seenK_all.2 (g3 v hv)
              repeat (first | refine tr_seq_k fun _ _ => ?_ | (refine tr_region ?_; simp only [go_sem, reduceCtorEq, Nat.reduceEqDiff, Nat.reduceLT, Nat.reduceLeDiff, Nat.reduceAdd, Nat.reduceMul, Nat.reduceSub, Nat.reduceBEq, ↓reduceIte, q1]) | (refine tr_draw (id := 15) follows 10000 [9] [0, 1, 2, 3, 4, 5, 6, 7, 8, 9, 10] (by kernel_rfl) ?_; simp only [go_sem, reduceCtorEq, Nat.reduceEqDiff, Nat.reduceLT, Nat.reduceLeDiff, Nat.reduceAdd, Nat.reduceMul, Nat.reduceSub, Nat.reduceBEq, ↓reduceIte, q1]) | (refine tr_draw (id := 30) follows 10000 [43] [0, 1, 2, 3, 4, 5, 6, 7, 8, 9, 10, 11, 12, 13, 14, 15, 16, 17, 18, 19, 20, 21, 22, 23, 24, 25, 26, 27, 28, 29, 30, 31, 32, 33, 34, 35, 36, 37, 38, 39, 40, 41, 42, 43, 44, 45] (by kernel_rfl) ?_; simp only [go_sem, reduceCtorEq, Nat.reduceEqDiff, Nat.reduceLT, Nat.reduceLeDiff, Nat.reduceAdd, Nat.reduceMul, Nat.reduceSub, Nat.reduceBEq, ↓reduceIte, q1]) | refine k_of (by assumption) ?_ | refine tr_block ?_ | refine tr_scope ?_ | (refine tr_skip ?_; try simp only [ex_seq, ex_block]) | (refine tr_label ?_; try simp only [ex_seq, ex_block]) | (refine tr_exit ?_; try simp only [ex_seq_exit, ex_block_exit, Nat.reduceEqDiff, if_true, if_false, ex_seq, ex_block, reduceCtorEq, ↓reduceIte]) | (refine tr_ret ?_; try simp only [ex_seq_ret, ex_block_ret]))
              refine tr_cond rfl (fun ht => ?_) (fun hf => ?_)
              · repeat (first | refine tr_seq_k fun _ _ => ?_ | (refine tr_region ?_; simp only [go_sem, reduceCtorEq, Nat.reduceEqDiff, Nat.reduceLT, Nat.reduceLeDiff, Nat.reduceAdd, Nat.reduceMul, Nat.reduceSub, Nat.reduceBEq, ↓reduceIte]) | (refine tr_draw (id := 15) follows 10000 [9] [0, 1, 2, 3, 4, 5, 6, 7, 8, 9, 10] (by kernel_rfl) ?_; simp only [go_sem, reduceCtorEq, Nat.reduceEqDiff, Nat.reduceLT, Nat.reduceLeDiff, Nat.reduceAdd, Nat.reduceMul, Nat.reduceSub, Nat.reduceBEq, ↓reduceIte]) | (refine tr_draw (id := 30) follows 10000 [43] [0, 1, 2, 3, 4, 5, 6, 7, 8, 9, 10, 11, 12, 13, 14, 15, 16, 17, 18, 19, 20, 21, 22, 23, 24, 25, 26, 27, 28, 29, 30, 31, 32, 33, 34, 35, 36, 37, 38, 39, 40, 41, 42, 43, 44, 45] (by kernel_rfl) ?_; simp only [go_sem, reduceCtorEq, Nat.reduceEqDiff, Nat.reduceLT, Nat.reduceLeDiff, Nat.reduceAdd, Nat.reduceMul, Nat.reduceSub, Nat.reduceBEq, ↓reduceIte]) | refine k_of (by assumption) ?_ | refine tr_block ?_ | refine tr_scope ?_ | (refine tr_skip ?_; try simp only [ex_seq, ex_block]) | (refine tr_label ?_; try simp only [ex_seq, ex_block]) | (refine tr_exit ?_; try simp only [ex_seq_exit, ex_block_exit, Nat.reduceEqDiff, if_true, if_false, ex_seq, ex_block, reduceCtorEq, ↓reduceIte]) | (refine tr_ret ?_; try simp only [ex_seq_ret, ex_block_ret]))
                refine tr_loop_k (σ := Nat) (fun k => [(1, .ptr 0 0), (3, .c (slC clsC C.isEmpty C)), (4, iA i), (5, .mapp 1), (6, iA k)]) (fun k => ⟨[⟨false, [.c (slC stC p.e1 p.prin), .c (slC prC p.e2 p.preds), .c (slC clC p.e3 p.clears), iA p.quota, iA p.budget, .c (slC ruC p.e4 p.rules), .c (slC grC p.e5 p.grants)]⟩, ⟨false, [.ent (setEs .string u1 (seenK x.body k 0))]⟩], []⟩) (fun k => k ≤ x.body.length) (fun k => x.body.length - k) 0 (Nat.zero_le _) ⟨rfl, rfl, rfl, rfl, rfl, trivial⟩ rfl ?_
                rintro k hk K2 hK2
                by_cases hkl : k < x.body.length
                · have q2 : decide ((k : Int) < (x.body.length : Nat)) = true := decide_eq_true (by omega)
                  have ws2 := wrap_succ (show k ≤ 1000000000 by omega)
                  have ixb := idxA12 (ex := x.ex) hkl
                  have ga := g2 _ (List.getElem_mem hkl)
                  have sa := s2 _ (List.getElem_mem hkl)
                  have hE : aAt x.body k = x.body[k] := by unfold aAt; rw [at_get hkl]
                  have hrow := seenK_row hkl
                  have hnx := fun j => @seenK_next x.body k j
                  rw [hE] at hrow hnx
                  clear hE
                  generalize x.body[k] = a at *
                  have cA := atom12_does p a hP12
                  rw [ga] at cA
                  have hok := check3_zero (atom12_zero ga).1
                  have oka : Atm.okay a := okay_of sa hok.2.2.1 hok.2.2.2.1
                  have cW := vars_does oka
                  have hWl : (pnames a true).length ≤ 4 := Nat.le_trans (pnames_len a true a.count) a.count_le
                  generalize pnames a true = W at *
                  repeat (first | refine tr_seq_k fun _ _ => ?_ | (refine tr_region ?_; simp only [go_sem, reduceCtorEq, Nat.reduceEqDiff, Nat.reduceLT, Nat.reduceLeDiff, Nat.reduceAdd, Nat.reduceMul, Nat.reduceSub, Nat.reduceBEq, ↓reduceIte, ix, clsC, q2]) | (refine tr_draw (id := 15) follows 10000 [9] [0, 1, 2, 3, 4, 5, 6, 7, 8, 9, 10] (by kernel_rfl) ?_; simp only [go_sem, reduceCtorEq, Nat.reduceEqDiff, Nat.reduceLT, Nat.reduceLeDiff, Nat.reduceAdd, Nat.reduceMul, Nat.reduceSub, Nat.reduceBEq, ↓reduceIte, ix, clsC, q2]) | (refine tr_draw (id := 30) follows 10000 [43] [0, 1, 2, 3, 4, 5, 6, 7, 8, 9, 10, 11, 12, 13, 14, 15, 16, 17, 18, 19, 20, 21, 22, 23, 24, 25, 26, 27, 28, 29, 30, 31, 32, 33, 34, 35, 36, 37, 38, 39, 40, 41, 42, 43, 44, 45] (by kernel_rfl) ?_; simp only [go_sem, reduceCtorEq, Nat.reduceEqDiff, Nat.reduceLT, Nat.reduceLeDiff, Nat.reduceAdd, Nat.reduceMul, Nat.reduceSub, Nat.reduceBEq, ↓reduceIte, ix, clsC, q2]) | refine k_of (by assumption) ?_ | refine tr_block ?_ | refine tr_scope ?_ | (refine tr_skip ?_; try simp only [ex_seq, ex_block]) | (refine tr_label ?_; try simp only [ex_seq, ex_block]) | (refine tr_exit ?_; try simp only [ex_seq_exit, ex_block_exit, Nat.reduceEqDiff, if_true, if_false, ex_seq, ex_block, reduceCtorEq, ↓reduceIte]) | (refine tr_ret ?_; try simp only [ex_seq_ret, ex_block_ret]))
                  refine tr_cond rfl (fun ht => ?_) (fun hf => ?_)
                  · repeat (first | refine tr_seq_k fun _ _ => ?_ | (refine tr_region ?_; simp only [go_sem, reduceCtorEq, Nat.reduceEqDiff, Nat.reduceLT, Nat.reduceLeDiff, Nat.reduceAdd, Nat.reduceMul, Nat.reduceSub, Nat.reduceBEq, ↓reduceIte, ix, clsC, ixb, atC]) | (refine tr_draw (id := 15) follows 10000 [9] [0, 1, 2, 3, 4, 5, 6, 7, 8, 9, 10] (by kernel_rfl) ?_; simp only [go_sem, reduceCtorEq, Nat.reduceEqDiff, Nat.reduceLT, Nat.reduceLeDiff, Nat.reduceAdd, Nat.reduceMul, Nat.reduceSub, Nat.reduceBEq, ↓reduceIte, ix, clsC, ixb, atC]) | (refine tr_draw (id := 30) follows 10000 [43] [0, 1, 2, 3, 4, 5, 6, 7, 8, 9, 10, 11, 12, 13, 14, 15, 16, 17, 18, 19, 20, 21, 22, 23, 24, 25, 26, 27, 28, 29, 30, 31, 32, 33, 34, 35, 36, 37, 38, 39, 40, 41, 42, 43, 44, 45] (by kernel_rfl) ?_; simp only [go_sem, reduceCtorEq, Nat.reduceEqDiff, Nat.reduceLT, Nat.reduceLeDiff, Nat.reduceAdd, Nat.reduceMul, Nat.reduceSub, Nat.reduceBEq, ↓reduceIte, ix, clsC, ixb, atC]) | (refine call_of (cA) ?_ ?_; (first | rfl | simp only [go_sem, reduceCtorEq, Nat.reduceEqDiff, Nat.reduceLT, Nat.reduceLeDiff, Nat.reduceAdd, Nat.reduceMul, Nat.reduceSub, Nat.reduceBEq, ↓reduceIte, ix, clsC, ixb, atC, shut_col]); simp only [go_sem, reduceCtorEq, Nat.reduceEqDiff, Nat.reduceLT, Nat.reduceLeDiff, Nat.reduceAdd, Nat.reduceMul, Nat.reduceSub, Nat.reduceBEq, ↓reduceIte, ix, clsC, ixb, atC]) | refine k_of (by assumption) ?_ | refine tr_block ?_ | refine tr_scope ?_ | (refine tr_skip ?_; try simp only [ex_seq, ex_block]) | (refine tr_label ?_; try simp only [ex_seq, ex_block]) | (refine tr_exit ?_; try simp only [ex_seq_exit, ex_block_exit, Nat.reduceEqDiff, if_true, if_false, ex_seq, ex_block, reduceCtorEq, ↓reduceIte]) | (refine tr_ret ?_; try simp only [ex_seq_ret, ex_block_ret]))
                    refine tr_cond rfl (fun ht => ?_) (fun hf => ?_)
                    · cases ht
                    · repeat (first | refine tr_seq_k fun _ _ => ?_ | (refine tr_region ?_; simp only [go_sem, reduceCtorEq, Nat.reduceEqDiff, Nat.reduceLT, Nat.reduceLeDiff, Nat.reduceAdd, Nat.reduceMul, Nat.reduceSub, Nat.reduceBEq, ↓reduceIte, ix, clsC, ixb, atC]) | (refine tr_draw (id := 15) follows 10000 [9] [0, 1, 2, 3, 4, 5, 6, 7, 8, 9, 10] (by kernel_rfl) ?_; simp only [go_sem, reduceCtorEq, Nat.reduceEqDiff, Nat.reduceLT, Nat.reduceLeDiff, Nat.reduceAdd, Nat.reduceMul, Nat.reduceSub, Nat.reduceBEq, ↓reduceIte, ix, clsC, ixb, atC]) | (refine tr_draw (id := 30) follows 10000 [43] [0, 1, 2, 3, 4, 5, 6, 7, 8, 9, 10, 11, 12, 13, 14, 15, 16, 17, 18, 19, 20, 21, 22, 23, 24, 25, 26, 27, 28, 29, 30, 31, 32, 33, 34, 35, 36, 37, 38, 39, 40, 41, 42, 43, 44, 45] (by kernel_rfl) ?_; simp only [go_sem, reduceCtorEq, Nat.reduceEqDiff, Nat.reduceLT, Nat.reduceLeDiff, Nat.reduceAdd, Nat.reduceMul, Nat.reduceSub, Nat.reduceBEq, ↓reduceIte, ix, clsC, ixb, atC]) | (refine call_of (cW) ?_ ?_; (first | rfl | simp only [go_sem, reduceCtorEq, Nat.reduceEqDiff, Nat.reduceLT, Nat.reduceLeDiff, Nat.reduceAdd, Nat.reduceMul, Nat.reduceSub, Nat.reduceBEq, ↓reduceIte, ix, clsC, ixb, atC, shut_col]); simp only [go_sem, reduceCtorEq, Nat.reduceEqDiff, Nat.reduceLT, Nat.reduceLeDiff, Nat.reduceAdd, Nat.reduceMul, Nat.reduceSub, Nat.reduceBEq, ↓reduceIte, ix, clsC, ixb, atC]) | refine k_of (by assumption) ?_ | refine tr_block ?_ | refine tr_scope ?_ | (refine tr_skip ?_; try simp only [ex_seq, ex_block]) | (refine tr_label ?_; try simp only [ex_seq, ex_block]) | (refine tr_exit ?_; try simp only [ex_seq_exit, ex_block_exit, Nat.reduceEqDiff, if_true, if_false, ex_seq, ex_block, reduceCtorEq, ↓reduceIte]) | (refine tr_ret ?_; try simp only [ex_seq_ret, ex_block_ret]))
                      refine tr_loop_k (σ := Nat) (fun j => [(1, .ptr 0 0), (3, .c (slC clsC C.isEmpty C)), (4, iA i), (5, .mapp 1), (6, iA k), (7, slS false W), (8, iA j)]) (fun j => ⟨[⟨false, [.c (slC stC p.e1 p.prin), .c (slC prC p.e2 p.preds), .c (slC clC p.e3 p.clears), iA p.quota, iA p.budget, .c (slC ruC p.e4 p.rules), .c (slC grC p.e5 p.grants)]⟩, ⟨false, [.ent (setEs .string u1 (seenK x.body k j))]⟩], []⟩) (fun j => j ≤ W.length) (fun j => W.length - j) 0 (Nat.zero_le _) ⟨rfl, rfl, rfl, rfl, rfl, rfl, rfl, trivial⟩ rfl ?_
                      rintro j hj K3 hK3
                      by_cases hjl : j < W.length
                      · have q3 : decide ((j : Int) < (W.length : Nat)) = true := decide_eq_true (by omega)
                        have ws3 := wrap_succ (show j ≤ 1000000000 by omega)
                        have ixw := idxS (ex := false) hjl
                        have hn := hnx j hjl
                        have pu := on_put (P := Try.prog) Try.underlying9 (u := u1) (seenK x.body k j) W[j]
                        rw [← hn] at pu
                        generalize W[j] = v at *
                        repeat (first | refine tr_seq_k fun _ _ => ?_ | (refine tr_region ?_; simp only [go_sem, reduceCtorEq, Nat.reduceEqDiff, Nat.reduceLT, Nat.reduceLeDiff, Nat.reduceAdd, Nat.reduceMul, Nat.reduceSub, Nat.reduceBEq, ↓reduceIte, q3]) | (refine tr_draw (id := 15) follows 10000 [9] [0, 1, 2, 3, 4, 5, 6, 7, 8, 9, 10] (by kernel_rfl) ?_; simp only [go_sem, reduceCtorEq, Nat.reduceEqDiff, Nat.reduceLT, Nat.reduceLeDiff, Nat.reduceAdd, Nat.reduceMul, Nat.reduceSub, Nat.reduceBEq, ↓reduceIte, q3]) | (refine tr_draw (id := 30) follows 10000 [43] [0, 1, 2, 3, 4, 5, 6, 7, 8, 9, 10, 11, 12, 13, 14, 15, 16, 17, 18, 19, 20, 21, 22, 23, 24, 25, 26, 27, 28, 29, 30, 31, 32, 33, 34, 35, 36, 37, 38, 39, 40, 41, 42, 43, 44, 45] (by kernel_rfl) ?_; simp only [go_sem, reduceCtorEq, Nat.reduceEqDiff, Nat.reduceLT, Nat.reduceLeDiff, Nat.reduceAdd, Nat.reduceMul, Nat.reduceSub, Nat.reduceBEq, ↓reduceIte, q3]) | refine k_of (by assumption) ?_ | refine tr_block ?_ | refine tr_scope ?_ | (refine tr_skip ?_; try simp only [ex_seq, ex_block]) | (refine tr_label ?_; try simp only [ex_seq, ex_block]) | (refine tr_exit ?_; try simp only [ex_seq_exit, ex_block_exit, Nat.reduceEqDiff, if_true, if_false, ex_seq, ex_block, reduceCtorEq, ↓reduceIte]) | (refine tr_ret ?_; try simp only [ex_seq_ret, ex_block_ret]))
                        refine tr_cond rfl (fun ht => ?_) (fun hf => ?_)
                        · repeat (first | refine tr_seq_k fun _ _ => ?_ | (refine tr_region ?_; simp only [go_sem, reduceCtorEq, Nat.reduceEqDiff, Nat.reduceLT, Nat.reduceLeDiff, Nat.reduceAdd, Nat.reduceMul, Nat.reduceSub, Nat.reduceBEq, ↓reduceIte, ixw, pu, ws3]) | (refine tr_draw (id := 15) follows 10000 [9] [0, 1, 2, 3, 4, 5, 6, 7, 8, 9, 10] (by kernel_rfl) ?_; simp only [go_sem, reduceCtorEq, Nat.reduceEqDiff, Nat.reduceLT, Nat.reduceLeDiff, Nat.reduceAdd, Nat.reduceMul, Nat.reduceSub, Nat.reduceBEq, ↓reduceIte, ixw, pu, ws3]) | (refine tr_draw (id := 30) follows 10000 [43] [0, 1, 2, 3, 4, 5, 6, 7, 8, 9, 10, 11, 12, 13, 14, 15, 16, 17, 18, 19, 20, 21, 22, 23, 24, 25, 26, 27, 28, 29, 30, 31, 32, 33, 34, 35, 36, 37, 38, 39, 40, 41, 42, 43, 44, 45] (by kernel_rfl) ?_; simp only [go_sem, reduceCtorEq, Nat.reduceEqDiff, Nat.reduceLT, Nat.reduceLeDiff, Nat.reduceAdd, Nat.reduceMul, Nat.reduceSub, Nat.reduceBEq, ↓reduceIte, ixw, pu, ws3]) | refine k_of (by assumption) ?_ | refine tr_block ?_ | refine tr_scope ?_ | (refine tr_skip ?_; try simp only [ex_seq, ex_block]) | (refine tr_label ?_; try simp only [ex_seq, ex_block]) | (refine tr_exit ?_; try simp only [ex_seq_exit, ex_block_exit, Nat.reduceEqDiff, if_true, if_false, ex_seq, ex_block, reduceCtorEq, ↓reduceIte]) | (refine tr_ret ?_; try simp only [ex_seq_ret, ex_block_ret]))
                          exact hK3 (j + 1) _ _ hjl ⟨⟨rfl, rfl, rfl, rfl, rfl, rfl, rfl, trivial⟩, Keep.refl _, rfl, rfl, Nat.le_refl _, Nat.le_refl _⟩ (by omega)
                        · cases hf
                      · have q3 : decide ((j : Int) < (W.length : Nat)) = false := decide_eq_false (by omega)
                        obtain rfl : j = W.length := by omega
                        rw [← hrow]
                        repeat (first | refine tr_seq_k fun _ _ => ?_ | (refine tr_region ?_; simp only [go_sem, reduceCtorEq, Nat.reduceEqDiff, Nat.reduceLT, Nat.reduceLeDiff, Nat.reduceAdd, Nat.reduceMul, Nat.reduceSub, Nat.reduceBEq, ↓reduceIte, q3]) | (refine tr_draw (id := 15) follows 10000 [9] [0, 1, 2, 3, 4, 5, 6, 7, 8, 9, 10] (by kernel_rfl) ?_; simp only [go_sem, reduceCtorEq, Nat.reduceEqDiff, Nat.reduceLT, Nat.reduceLeDiff, Nat.reduceAdd, Nat.reduceMul, Nat.reduceSub, Nat.reduceBEq, ↓reduceIte, q3]) | (refine tr_draw (id := 30) follows 10000 [43] [0, 1, 2, 3, 4, 5, 6, 7, 8, 9, 10, 11, 12, 13, 14, 15, 16, 17, 18, 19, 20, 21, 22, 23, 24, 25, 26, 27, 28, 29, 30, 31, 32, 33, 34, 35, 36, 37, 38, 39, 40, 41, 42, 43, 44, 45] (by kernel_rfl) ?_; simp only [go_sem, reduceCtorEq, Nat.reduceEqDiff, Nat.reduceLT, Nat.reduceLeDiff, Nat.reduceAdd, Nat.reduceMul, Nat.reduceSub, Nat.reduceBEq, ↓reduceIte, q3]) | refine k_of (by assumption) ?_ | refine tr_block ?_ | refine tr_scope ?_ | (refine tr_skip ?_; try simp only [ex_seq, ex_block]) | (refine tr_label ?_; try simp only [ex_seq, ex_block]) | (refine tr_exit ?_; try simp only [ex_seq_exit, ex_block_exit, Nat.reduceEqDiff, if_true, if_false, ex_seq, ex_block, reduceCtorEq, ↓reduceIte]) | (refine tr_ret ?_; try simp only [ex_seq_ret, ex_block_ret]))
                        refine tr_cond rfl (fun ht => ?_) (fun hf => ?_)
                        · cases ht
                        · repeat (first | refine tr_seq_k fun _ _ => ?_ | (refine tr_region ?_; simp only [go_sem, reduceCtorEq, Nat.reduceEqDiff, Nat.reduceLT, Nat.reduceLeDiff, Nat.reduceAdd, Nat.reduceMul, Nat.reduceSub, Nat.reduceBEq, ↓reduceIte, ws2]) | (refine tr_draw (id := 15) follows 10000 [9] [0, 1, 2, 3, 4, 5, 6, 7, 8, 9, 10] (by kernel_rfl) ?_; simp only [go_sem, reduceCtorEq, Nat.reduceEqDiff, Nat.reduceLT, Nat.reduceLeDiff, Nat.reduceAdd, Nat.reduceMul, Nat.reduceSub, Nat.reduceBEq, ↓reduceIte, ws2]) | (refine tr_draw (id := 30) follows 10000 [43] [0, 1, 2, 3, 4, 5, 6, 7, 8, 9, 10, 11, 12, 13, 14, 15, 16, 17, 18, 19, 20, 21, 22, 23, 24, 25, 26, 27, 28, 29, 30, 31, 32, 33, 34, 35, 36, 37, 38, 39, 40, 41, 42, 43, 44, 45] (by kernel_rfl) ?_; simp only [go_sem, reduceCtorEq, Nat.reduceEqDiff, Nat.reduceLT, Nat.reduceLeDiff, Nat.reduceAdd, Nat.reduceMul, Nat.reduceSub, Nat.reduceBEq, ↓reduceIte, ws2]) | refine k_of (by assumption) ?_ | refine tr_block ?_ | refine tr_scope ?_ | (refine tr_skip ?_; try simp only [ex_seq, ex_block]) | (refine tr_label ?_; try simp only [ex_seq, ex_block]) | (refine tr_exit ?_; try simp only [ex_seq_exit, ex_block_exit, Nat.reduceEqDiff, if_true, if_false, ex_seq, ex_block, reduceCtorEq, ↓reduceIte]) | (refine tr_ret ?_; try simp only [ex_seq_ret, ex_block_ret]))
                          exact hK2 (k + 1) _ _ hkl ⟨⟨rfl, rfl, rfl, rfl, rfl, trivial⟩, Keep.refl _, rfl, rfl, Nat.le_refl _, Nat.le_refl _⟩ (by omega)
                  · cases hf
                · have q2 : decide ((k : Int) < (x.body.length : Nat)) = false := decide_eq_false (by omega)
                  obtain rfl : k = x.body.length := by omega
                  generalize seenK x.body x.body.length 0 = S at *
                  generalize pnames x.head true = V at *
                  repeat (first | refine tr_seq_k fun _ _ => ?_ | (refine tr_region ?_; simp only [go_sem, reduceCtorEq, Nat.reduceEqDiff, Nat.reduceLT, Nat.reduceLeDiff, Nat.reduceAdd, Nat.reduceMul, Nat.reduceSub, Nat.reduceBEq, ↓reduceIte, ix, clsC, q2]) | (refine tr_draw (id := 15) follows 10000 [9] [0, 1, 2, 3, 4, 5, 6, 7, 8, 9, 10] (by kernel_rfl) ?_; simp only [go_sem, reduceCtorEq, Nat.reduceEqDiff, Nat.reduceLT, Nat.reduceLeDiff, Nat.reduceAdd, Nat.reduceMul, Nat.reduceSub, Nat.reduceBEq, ↓reduceIte, ix, clsC, q2]) | (refine tr_draw (id := 30) follows 10000 [43] [0, 1, 2, 3, 4, 5, 6, 7, 8, 9, 10, 11, 12, 13, 14, 15, 16, 17, 18, 19, 20, 21, 22, 23, 24, 25, 26, 27, 28, 29, 30, 31, 32, 33, 34, 35, 36, 37, 38, 39, 40, 41, 42, 43, 44, 45] (by kernel_rfl) ?_; simp only [go_sem, reduceCtorEq, Nat.reduceEqDiff, Nat.reduceLT, Nat.reduceLeDiff, Nat.reduceAdd, Nat.reduceMul, Nat.reduceSub, Nat.reduceBEq, ↓reduceIte, ix, clsC, q2]) | refine k_of (by assumption) ?_ | refine tr_block ?_ | refine tr_scope ?_ | (refine tr_skip ?_; try simp only [ex_seq, ex_block]) | (refine tr_label ?_; try simp only [ex_seq, ex_block]) | (refine tr_exit ?_; try simp only [ex_seq_exit, ex_block_exit, Nat.reduceEqDiff, if_true, if_false, ex_seq, ex_block, reduceCtorEq, ↓reduceIte]) | (refine tr_ret ?_; try simp only [ex_seq_ret, ex_block_ret]))
                  refine tr_cond rfl (fun ht => ?_) (fun hf => ?_)
                  · cases ht
                  · repeat (first | refine tr_seq_k fun _ _ => ?_ | (refine tr_region ?_; simp only [go_sem, reduceCtorEq, Nat.reduceEqDiff, Nat.reduceLT, Nat.reduceLeDiff, Nat.reduceAdd, Nat.reduceMul, Nat.reduceSub, Nat.reduceBEq, ↓reduceIte, ix, clsC]) | (refine tr_draw (id := 15) follows 10000 [9] [0, 1, 2, 3, 4, 5, 6, 7, 8, 9, 10] (by kernel_rfl) ?_; simp only [go_sem, reduceCtorEq, Nat.reduceEqDiff, Nat.reduceLT, Nat.reduceLeDiff, Nat.reduceAdd, Nat.reduceMul, Nat.reduceSub, Nat.reduceBEq, ↓reduceIte, ix, clsC]) | (refine tr_draw (id := 30) follows 10000 [43] [0, 1, 2, 3, 4, 5, 6, 7, 8, 9, 10, 11, 12, 13, 14, 15, 16, 17, 18, 19, 20, 21, 22, 23, 24, 25, 26, 27, 28, 29, 30, 31, 32, 33, 34, 35, 36, 37, 38, 39, 40, 41, 42, 43, 44, 45] (by kernel_rfl) ?_; simp only [go_sem, reduceCtorEq, Nat.reduceEqDiff, Nat.reduceLT, Nat.reduceLeDiff, Nat.reduceAdd, Nat.reduceMul, Nat.reduceSub, Nat.reduceBEq, ↓reduceIte, ix, clsC]) | (refine call_of (cV) ?_ ?_; (first | rfl | simp only [go_sem, reduceCtorEq, Nat.reduceEqDiff, Nat.reduceLT, Nat.reduceLeDiff, Nat.reduceAdd, Nat.reduceMul, Nat.reduceSub, Nat.reduceBEq, ↓reduceIte, ix, clsC, shut_col]); simp only [go_sem, reduceCtorEq, Nat.reduceEqDiff, Nat.reduceLT, Nat.reduceLeDiff, Nat.reduceAdd, Nat.reduceMul, Nat.reduceSub, Nat.reduceBEq, ↓reduceIte, ix, clsC]) | refine k_of (by assumption) ?_ | refine tr_block ?_ | refine tr_scope ?_ | (refine tr_skip ?_; try simp only [ex_seq, ex_block]) | (refine tr_label ?_; try simp only [ex_seq, ex_block]) | (refine tr_exit ?_; try simp only [ex_seq_exit, ex_block_exit, Nat.reduceEqDiff, if_true, if_false, ex_seq, ex_block, reduceCtorEq, ↓reduceIte]) | (refine tr_ret ?_; try simp only [ex_seq_ret, ex_block_ret]))
                    refine tr_loop_k (σ := Nat) (fun j => [(1, .ptr 0 0), (3, .c (slC clsC C.isEmpty C)), (4, iA i), (5, .mapp 1), (9, slS false V), (10, iA j)]) (fun j => ⟨[⟨false, [.c (slC stC p.e1 p.prin), .c (slC prC p.e2 p.preds), .c (slC clC p.e3 p.clears), iA p.quota, iA p.budget, .c (slC ruC p.e4 p.rules), .c (slC grC p.e5 p.grants)]⟩, ⟨false, [.ent (setEs .string u1 S)]⟩], []⟩) (fun j => j ≤ V.length) (fun j => V.length - j) 0 (Nat.zero_le _) ⟨rfl, rfl, rfl, rfl, rfl, rfl, trivial⟩ rfl ?_
                    rintro j hj K3 hK3
                    by_cases hjl : j < V.length
                    · have q3 : decide ((j : Int) < (V.length : Nat)) = true := decide_eq_true (by omega)
                      have ws3 := wrap_succ (show j ≤ 1000000000 by omega)
                      have ixw := idxS (ex := false) hjl
                      have lk := on_some (P := Try.prog) Try.underlying9 (u := u1) (hVin _ (List.getElem_mem hjl)) (setEs .string u1 S).isEmpty
                      generalize V[j] = v at *
                      repeat (first | refine tr_seq_k fun _ _ => ?_ | (refine tr_region ?_; simp only [go_sem, reduceCtorEq, Nat.reduceEqDiff, Nat.reduceLT, Nat.reduceLeDiff, Nat.reduceAdd, Nat.reduceMul, Nat.reduceSub, Nat.reduceBEq, ↓reduceIte, q3]) | (refine tr_draw (id := 15) follows 10000 [9] [0, 1, 2, 3, 4, 5, 6, 7, 8, 9, 10] (by kernel_rfl) ?_; simp only [go_sem, reduceCtorEq, Nat.reduceEqDiff, Nat.reduceLT, Nat.reduceLeDiff, Nat.reduceAdd, Nat.reduceMul, Nat.reduceSub, Nat.reduceBEq, ↓reduceIte, q3]) | (refine tr_draw (id := 30) follows 10000 [43] [0, 1, 2, 3, 4, 5, 6, 7, 8, 9, 10, 11, 12, 13, 14, 15, 16, 17, 18, 19, 20, 21, 22, 23, 24, 25, 26, 27, 28, 29, 30, 31, 32, 33, 34, 35, 36, 37, 38, 39, 40, 41, 42, 43, 44, 45] (by kernel_rfl) ?_; simp only [go_sem, reduceCtorEq, Nat.reduceEqDiff, Nat.reduceLT, Nat.reduceLeDiff, Nat.reduceAdd, Nat.reduceMul, Nat.reduceSub, Nat.reduceBEq, ↓reduceIte, q3]) | refine k_of (by assumption) ?_ | refine tr_block ?_ | refine tr_scope ?_ | (refine tr_skip ?_; try simp only [ex_seq, ex_block]) | (refine tr_label ?_; try simp only [ex_seq, ex_block]) | (refine tr_exit ?_; try simp only [ex_seq_exit, ex_block_exit, Nat.reduceEqDiff, if_true, if_false, ex_seq, ex_block, reduceCtorEq, ↓reduceIte]) | (refine tr_ret ?_; try simp only [ex_seq_ret, ex_block_ret]))
                      refine tr_cond rfl (fun ht => ?_) (fun hf => ?_)
                      · repeat (first | refine tr_seq_k fun _ _ => ?_ | (refine tr_region ?_; simp only [go_sem, reduceCtorEq, Nat.reduceEqDiff, Nat.reduceLT, Nat.reduceLeDiff, Nat.reduceAdd, Nat.reduceMul, Nat.reduceSub, Nat.reduceBEq, ↓reduceIte, ixw, lk, zaI13]) | (refine tr_draw (id := 15) follows 10000 [9] [0, 1, 2, 3, 4, 5, 6, 7, 8, 9, 10] (by kernel_rfl) ?_; simp only [go_sem, reduceCtorEq, Nat.reduceEqDiff, Nat.reduceLT, Nat.reduceLeDiff, Nat.reduceAdd, Nat.reduceMul, Nat.reduceSub, Nat.reduceBEq, ↓reduceIte, ixw, lk, zaI13]) | (refine tr_draw (id := 30) follows 10000 [43] [0, 1, 2, 3, 4, 5, 6, 7, 8, 9, 10, 11, 12, 13, 14, 15, 16, 17, 18, 19, 20, 21, 22, 23, 24, 25, 26, 27, 28, 29, 30, 31, 32, 33, 34, 35, 36, 37, 38, 39, 40, 41, 42, 43, 44, 45] (by kernel_rfl) ?_; simp only [go_sem, reduceCtorEq, Nat.reduceEqDiff, Nat.reduceLT, Nat.reduceLeDiff, Nat.reduceAdd, Nat.reduceMul, Nat.reduceSub, Nat.reduceBEq, ↓reduceIte, ixw, lk, zaI13]) | refine k_of (by assumption) ?_ | refine tr_block ?_ | refine tr_scope ?_ | (refine tr_skip ?_; try simp only [ex_seq, ex_block]) | (refine tr_label ?_; try simp only [ex_seq, ex_block]) | (refine tr_exit ?_; try simp only [ex_seq_exit, ex_block_exit, Nat.reduceEqDiff, if_true, if_false, ex_seq, ex_block, reduceCtorEq, ↓reduceIte]) | (refine tr_ret ?_; try simp only [ex_seq_ret, ex_block_ret]))
                        refine tr_cond rfl (fun ht => ?_) (fun hf => ?_)
                        · cases ht
                        · repeat (first | refine tr_seq_k fun _ _ => ?_ | (refine tr_region ?_; simp only [go_sem, reduceCtorEq, Nat.reduceEqDiff, Nat.reduceLT, Nat.reduceLeDiff, Nat.reduceAdd, Nat.reduceMul, Nat.reduceSub, Nat.reduceBEq, ↓reduceIte, ws3]) | (refine tr_draw (id := 15) follows 10000 [9] [0, 1, 2, 3, 4, 5, 6, 7, 8, 9, 10] (by kernel_rfl) ?_; simp only [go_sem, reduceCtorEq, Nat.reduceEqDiff, Nat.reduceLT, Nat.reduceLeDiff, Nat.reduceAdd, Nat.reduceMul, Nat.reduceSub, Nat.reduceBEq, ↓reduceIte, ws3]) | (refine tr_draw (id := 30) follows 10000 [43] [0, 1, 2, 3, 4, 5, 6, 7, 8, 9, 10, 11, 12, 13, 14, 15, 16, 17, 18, 19, 20, 21, 22, 23, 24, 25, 26, 27, 28, 29, 30, 31, 32, 33, 34, 35, 36, 37, 38, 39, 40, 41, 42, 43, 44, 45] (by kernel_rfl) ?_; simp only [go_sem, reduceCtorEq, Nat.reduceEqDiff, Nat.reduceLT, Nat.reduceLeDiff, Nat.reduceAdd, Nat.reduceMul, Nat.reduceSub, Nat.reduceBEq, ↓reduceIte, ws3]) | refine k_of (by assumption) ?_ | refine tr_block ?_ | refine tr_scope ?_ | (refine tr_skip ?_; try simp only [ex_seq, ex_block]) | (refine tr_label ?_; try simp only [ex_seq, ex_block]) | (refine tr_exit ?_; try simp only [ex_seq_exit, ex_block_exit, Nat.reduceEqDiff, if_true, if_false, ex_seq, ex_block, reduceCtorEq, ↓reduceIte]) | (refine tr_ret ?_; try simp only [ex_seq_ret, ex_block_ret]))
                          exact hK3 (j + 1) _ _ hjl ⟨⟨rfl, rfl, rfl, rfl, rfl, rfl, trivial⟩, Keep.refl _, rfl, rfl, Nat.le_refl _, Nat.le_refl _⟩ (by omega)
                      · cases hf
                    · have q3 : decide ((j : Int) < (V.length : Nat)) = false := decide_eq_false (by omega)
                      cases q4 : decide ((i : Int) ≥ (p.rules.length : Int)) with
                      | false =>
                        repeat (first | refine tr_seq_k fun _ _ => ?_ | (refine tr_region ?_; simp only [go_sem, reduceCtorEq, Nat.reduceEqDiff, Nat.reduceLT, Nat.reduceLeDiff, Nat.reduceAdd, Nat.reduceMul, Nat.reduceSub, Nat.reduceBEq, ↓reduceIte, q3]) | (refine tr_draw (id := 15) follows 10000 [9] [0, 1, 2, 3, 4, 5, 6, 7, 8, 9, 10] (by kernel_rfl) ?_; simp only [go_sem, reduceCtorEq, Nat.reduceEqDiff, Nat.reduceLT, Nat.reduceLeDiff, Nat.reduceAdd, Nat.reduceMul, Nat.reduceSub, Nat.reduceBEq, ↓reduceIte, q3]) | (refine tr_draw (id := 30) follows 10000 [43] [0, 1, 2, 3, 4, 5, 6, 7, 8, 9, 10, 11, 12, 13, 14, 15, 16, 17, 18, 19, 20, 21, 22, 23, 24, 25, 26, 27, 28, 29, 30, 31, 32, 33, 34, 35, 36, 37, 38, 39, 40, 41, 42, 43, 44, 45] (by kernel_rfl) ?_; simp only [go_sem, reduceCtorEq, Nat.reduceEqDiff, Nat.reduceLT, Nat.reduceLeDiff, Nat.reduceAdd, Nat.reduceMul, Nat.reduceSub, Nat.reduceBEq, ↓reduceIte, q3]) | refine k_of (by assumption) ?_ | refine tr_block ?_ | refine tr_scope ?_ | (refine tr_skip ?_; try simp only [ex_seq, ex_block]) | (refine tr_label ?_; try simp only [ex_seq, ex_block]) | (refine tr_exit ?_; try simp only [ex_seq_exit, ex_block_exit, Nat.reduceEqDiff, if_true, if_false, ex_seq, ex_block, reduceCtorEq, ↓reduceIte]) | (refine tr_ret ?_; try simp only [ex_seq_ret, ex_block_ret]))
                        refine tr_cond rfl (fun ht => ?_) (fun hf => ?_)
                        · cases ht
                        · repeat (first | refine tr_seq_k fun _ _ => ?_ | (refine tr_region ?_; simp only [go_sem, reduceCtorEq, Nat.reduceEqDiff, Nat.reduceLT, Nat.reduceLeDiff, Nat.reduceAdd, Nat.reduceMul, Nat.reduceSub, Nat.reduceBEq, ↓reduceIte, q4]) | (refine tr_draw (id := 15) follows 10000 [9] [0, 1, 2, 3, 4, 5, 6, 7, 8, 9, 10] (by kernel_rfl) ?_; simp only [go_sem, reduceCtorEq, Nat.reduceEqDiff, Nat.reduceLT, Nat.reduceLeDiff, Nat.reduceAdd, Nat.reduceMul, Nat.reduceSub, Nat.reduceBEq, ↓reduceIte, q4]) | (refine tr_draw (id := 30) follows 10000 [43] [0, 1, 2, 3, 4, 5, 6, 7, 8, 9, 10, 11, 12, 13, 14, 15, 16, 17, 18, 19, 20, 21, 22, 23, 24, 25, 26, 27, 28, 29, 30, 31, 32, 33, 34, 35, 36, 37, 38, 39, 40, 41, 42, 43, 44, 45] (by kernel_rfl) ?_; simp only [go_sem, reduceCtorEq, Nat.reduceEqDiff, Nat.reduceLT, Nat.reduceLeDiff, Nat.reduceAdd, Nat.reduceMul, Nat.reduceSub, Nat.reduceBEq, ↓reduceIte, q4]) | refine k_of (by assumption) ?_ | refine tr_block ?_ | refine tr_scope ?_ | (refine tr_skip ?_; try simp only [ex_seq, ex_block]) | (refine tr_label ?_; try simp only [ex_seq, ex_block]) | (refine tr_exit ?_; try simp only [ex_seq_exit, ex_block_exit, Nat.reduceEqDiff, if_true, if_false, ex_seq, ex_block, reduceCtorEq, ↓reduceIte]) | (refine tr_ret ?_; try simp only [ex_seq_ret, ex_block_ret]))
                          refine tr_cond rfl (fun ht => ?_) (fun hf => ?_)
                          · cases ht
                          · repeat (first | refine tr_seq_k fun _ _ => ?_ | (refine tr_region ?_; simp only [go_sem, reduceCtorEq, Nat.reduceEqDiff, Nat.reduceLT, Nat.reduceLeDiff, Nat.reduceAdd, Nat.reduceMul, Nat.reduceSub, Nat.reduceBEq, ↓reduceIte, ws]) | (refine tr_draw (id := 15) follows 10000 [9] [0, 1, 2, 3, 4, 5, 6, 7, 8, 9, 10] (by kernel_rfl) ?_; simp only [go_sem, reduceCtorEq, Nat.reduceEqDiff, Nat.reduceLT, Nat.reduceLeDiff, Nat.reduceAdd, Nat.reduceMul, Nat.reduceSub, Nat.reduceBEq, ↓reduceIte, ws]) | (refine tr_draw (id := 30) follows 10000 [43] [0, 1, 2, 3, 4, 5, 6, 7, 8, 9, 10, 11, 12, 13, 14, 15, 16, 17, 18, 19, 20, 21, 22, 23, 24, 25, 26, 27, 28, 29, 30, 31, 32, 33, 34, 35, 36, 37, 38, 39, 40, 41, 42, 43, 44, 45] (by kernel_rfl) ?_; simp only [go_sem, reduceCtorEq, Nat.reduceEqDiff, Nat.reduceLT, Nat.reduceLeDiff, Nat.reduceAdd, Nat.reduceMul, Nat.reduceSub, Nat.reduceBEq, ↓reduceIte, ws]) | refine k_of (by assumption) ?_ | refine tr_block ?_ | refine tr_scope ?_ | (refine tr_skip ?_; try simp only [ex_seq, ex_block]) | (refine tr_label ?_; try simp only [ex_seq, ex_block]) | (refine tr_exit ?_; try simp only [ex_seq_exit, ex_block_exit, Nat.reduceEqDiff, if_true, if_false, ex_seq, ex_block, reduceCtorEq, ↓reduceIte]) | (refine tr_ret ?_; try simp only [ex_seq_ret, ex_block_ret]))
                            exact hK (i + 1) _ _ hil ⟨⟨rfl, rfl, rfl, trivial⟩, Keep.of (eh := [_]) (ew := []) rfl rfl, rfl, rfl, Nat.le_refl _, Nat.le_refl _⟩ (by omega)
                      | true =>
                        have hir : p.rules.length ≤ i := by have := of_decide_eq_true q4; omega
                        obtain ⟨hjg, hgx⟩ := hgi hir
                        have wsub : IntKind.i64.wrap ((i : Int) - (p.rules.length : Int)) = ((i - p.rules.length : Nat) : Int) := by rw [wrap_in (by omega)]; omega
                        have ixg := idxGr (ex := p.e5) hjg
                        have hgb := (hL.grants _ (List.getElem_mem hjg)).2.2.2
                        generalize p.grants[i - p.rules.length] = g at *
                        have hch : x.head = g.head := by rw [hgx]; rfl
                        have hcb : x.body = leadA g :: g.body := by rw [hgx]; rfl
                        have eM := fun y z => bin_neA y z x.head g.head
                        rw [decide_eq_true hch] at eM
                        simp only [pv_bind, Bool.not_true] at eM
                        have wg := wrap_succ (show g.body.length ≤ 1000000000 by omega)
                        have el : decide ((x.body.length : Int) = ((g.body.length + 1 : Nat) : Int)) = true := by rw [hcb]; exact decide_eq_true rfl
                        have ix0 : aIndexAddr Try.prog 41 (.c (slC atC x.ex x.body)) (.c (.v (.int .i64 0))) = some (.cptr (atC (leadA g) ++ g.body.flatMap atC)) := by
                          rw [hcb]
                          exact idxA12 (ex := x.ex) (l := leadA g :: g.body) (k := 0) (by simp)
                        have sS : decide ((leadA g).says = g.tw) = true := decide_eq_true rfl
                        have fr : aSlice Try.prog 41 (.c (slC atC x.ex x.body)) (some 1) none none = some (.c (slC atC x.ex g.body)) := by
                          rw [hcb]
                          exact fromA (ex := x.ex) (l := leadA g :: g.body) (j := 1) (by decide) (by simp)
                        have cS := sameA_does g.body g.body x.ex g.ex (by omega)
                        rw [decide_eq_true rfl] at cS
                        repeat (first | refine tr_seq_k fun _ _ => ?_ | (refine tr_region ?_; simp only [go_sem, reduceCtorEq, Nat.reduceEqDiff, Nat.reduceLT, Nat.reduceLeDiff, Nat.reduceAdd, Nat.reduceMul, Nat.reduceSub, Nat.reduceBEq, ↓reduceIte, q3]) | (refine tr_draw (id := 15) follows 10000 [9] [0, 1, 2, 3, 4, 5, 6, 7, 8, 9, 10] (by kernel_rfl) ?_; simp only [go_sem, reduceCtorEq, Nat.reduceEqDiff, Nat.reduceLT, Nat.reduceLeDiff, Nat.reduceAdd, Nat.reduceMul, Nat.reduceSub, Nat.reduceBEq, ↓reduceIte, q3]) | (refine tr_draw (id := 30) follows 10000 [43] [0, 1, 2, 3, 4, 5, 6, 7, 8, 9, 10, 11, 12, 13, 14, 15, 16, 17, 18, 19, 20, 21, 22, 23, 24, 25, 26, 27, 28, 29, 30, 31, 32, 33, 34, 35, 36, 37, 38, 39, 40, 41, 42, 43, 44, 45] (by kernel_rfl) ?_; simp only [go_sem, reduceCtorEq, Nat.reduceEqDiff, Nat.reduceLT, Nat.reduceLeDiff, Nat.reduceAdd, Nat.reduceMul, Nat.reduceSub, Nat.reduceBEq, ↓reduceIte, q3]) | refine k_of (by assumption) ?_ | refine tr_block ?_ | refine tr_scope ?_ | (refine tr_skip ?_; try simp only [ex_seq, ex_block]) | (refine tr_label ?_; try simp only [ex_seq, ex_block]) | (refine tr_exit ?_; try simp only [ex_seq_exit, ex_block_exit, Nat.reduceEqDiff, if_true, if_false, ex_seq, ex_block, reduceCtorEq, ↓reduceIte]) | (refine tr_ret ?_; try simp only [ex_seq_ret, ex_block_ret]))
                        refine tr_cond rfl (fun ht => ?_) (fun hf => ?_)
                        · cases ht
                        · repeat (first | refine tr_seq_k fun _ _ => ?_ | (refine tr_region ?_; simp only [go_sem, reduceCtorEq, Nat.reduceEqDiff, Nat.reduceLT, Nat.reduceLeDiff, Nat.reduceAdd, Nat.reduceMul, Nat.reduceSub, Nat.reduceBEq, ↓reduceIte, q4]) | (refine tr_draw (id := 15) follows 10000 [9] [0, 1, 2, 3, 4, 5, 6, 7, 8, 9, 10] (by kernel_rfl) ?_; simp only [go_sem, reduceCtorEq, Nat.reduceEqDiff, Nat.reduceLT, Nat.reduceLeDiff, Nat.reduceAdd, Nat.reduceMul, Nat.reduceSub, Nat.reduceBEq, ↓reduceIte, q4]) | (refine tr_draw (id := 30) follows 10000 [43] [0, 1, 2, 3, 4, 5, 6, 7, 8, 9, 10, 11, 12, 13, 14, 15, 16, 17, 18, 19, 20, 21, 22, 23, 24, 25, 26, 27, 28, 29, 30, 31, 32, 33, 34, 35, 36, 37, 38, 39, 40, 41, 42, 43, 44, 45] (by kernel_rfl) ?_; simp only [go_sem, reduceCtorEq, Nat.reduceEqDiff, Nat.reduceLT, Nat.reduceLeDiff, Nat.reduceAdd, Nat.reduceMul, Nat.reduceSub, Nat.reduceBEq, ↓reduceIte, q4]) | refine k_of (by assumption) ?_ | refine tr_block ?_ | refine tr_scope ?_ | (refine tr_skip ?_; try simp only [ex_seq, ex_block]) | (refine tr_label ?_; try simp only [ex_seq, ex_block]) | (refine tr_exit ?_; try simp only [ex_seq_exit, ex_block_exit, Nat.reduceEqDiff, if_true, if_false, ex_seq, ex_block, reduceCtorEq, ↓reduceIte]) | (refine tr_ret ?_; try simp only [ex_seq_ret, ex_block_ret]))
                          refine tr_cond rfl (fun ht => ?_) (fun hf => ?_)
                          · repeat (first | refine tr_seq_k fun _ _ => ?_ | (refine tr_region ?_; simp only [go_sem, reduceCtorEq, Nat.reduceEqDiff, Nat.reduceLT, Nat.reduceLeDiff, Nat.reduceAdd, Nat.reduceMul, Nat.reduceSub, Nat.reduceBEq, ↓reduceIte, wsub, ixg, ix, clsC, eM, wg, el, ix0, atC, sS, fr]) | (refine tr_draw (id := 15) follows 10000 [9] [0, 1, 2, 3, 4, 5, 6, 7, 8, 9, 10] (by kernel_rfl) ?_; simp only [go_sem, reduceCtorEq, Nat.reduceEqDiff, Nat.reduceLT, Nat.reduceLeDiff, Nat.reduceAdd, Nat.reduceMul, Nat.reduceSub, Nat.reduceBEq, ↓reduceIte, wsub, ixg, ix, clsC, eM, wg, el, ix0, atC, sS, fr]) | (refine tr_draw (id := 30) follows 10000 [43] [0, 1, 2, 3, 4, 5, 6, 7, 8, 9, 10, 11, 12, 13, 14, 15, 16, 17, 18, 19, 20, 21, 22, 23, 24, 25, 26, 27, 28, 29, 30, 31, 32, 33, 34, 35, 36, 37, 38, 39, 40, 41, 42, 43, 44, 45] (by kernel_rfl) ?_; simp only [go_sem, reduceCtorEq, Nat.reduceEqDiff, Nat.reduceLT, Nat.reduceLeDiff, Nat.reduceAdd, Nat.reduceMul, Nat.reduceSub, Nat.reduceBEq, ↓reduceIte, wsub, ixg, ix, clsC, eM, wg, el, ix0, atC, sS, fr]) | (refine call_of (cS) ?_ ?_; (first | rfl | simp only [go_sem, reduceCtorEq, Nat.reduceEqDiff, Nat.reduceLT, Nat.reduceLeDiff, Nat.reduceAdd, Nat.reduceMul, Nat.reduceSub, Nat.reduceBEq, ↓reduceIte, wsub, ixg, ix, clsC, eM, wg, el, ix0, atC, sS, fr, shut_col]); simp only [go_sem, reduceCtorEq, Nat.reduceEqDiff, Nat.reduceLT, Nat.reduceLeDiff, Nat.reduceAdd, Nat.reduceMul, Nat.reduceSub, Nat.reduceBEq, ↓reduceIte, wsub, ixg, ix, clsC, eM, wg, el, ix0, atC, sS, fr]) | refine k_of (by assumption) ?_ | refine tr_block ?_ | refine tr_scope ?_ | (refine tr_skip ?_; try simp only [ex_seq, ex_block]) | (refine tr_label ?_; try simp only [ex_seq, ex_block]) | (refine tr_exit ?_; try simp only [ex_seq_exit, ex_block_exit, Nat.reduceEqDiff, if_true, if_false, ex_seq, ex_block, reduceCtorEq, ↓reduceIte]) | (refine tr_ret ?_; try simp only [ex_seq_ret, ex_block_ret]))
                            refine tr_cond rfl (fun ht => ?_) (fun hf => ?_)
                            · cases ht
                            · repeat (first | refine tr_seq_k fun _ _ => ?_ | (refine tr_region ?_; simp only [go_sem, reduceCtorEq, Nat.reduceEqDiff, Nat.reduceLT, Nat.reduceLeDiff, Nat.reduceAdd, Nat.reduceMul, Nat.reduceSub, Nat.reduceBEq, ↓reduceIte, ws]) | (refine tr_draw (id := 15) follows 10000 [9] [0, 1, 2, 3, 4, 5, 6, 7, 8, 9, 10] (by kernel_rfl) ?_; simp only [go_sem, reduceCtorEq, Nat.reduceEqDiff, Nat.reduceLT, Nat.reduceLeDiff, Nat.reduceAdd, Nat.reduceMul, Nat.reduceSub, Nat.reduceBEq, ↓reduceIte, ws]) | (refine tr_draw (id := 30) follows 10000 [43] [0, 1, 2, 3, 4, 5, 6, 7, 8, 9, 10, 11, 12, 13, 14, 15, 16, 17, 18, 19, 20, 21, 22, 23, 24, 25, 26, 27, 28, 29, 30, 31, 32, 33, 34, 35, 36, 37, 38, 39, 40, 41, 42, 43, 44, 45] (by kernel_rfl) ?_; simp only [go_sem, reduceCtorEq, Nat.reduceEqDiff, Nat.reduceLT, Nat.reduceLeDiff, Nat.reduceAdd, Nat.reduceMul, Nat.reduceSub, Nat.reduceBEq, ↓reduceIte, ws]) | refine k_of (by assumption) ?_ | refine tr_block ?_ | refine tr_scope ?_ | (refine tr_skip ?_; try simp only [ex_seq, ex_block]) | (refine tr_label ?_; try simp only [ex_seq, ex_block]) | (refine tr_exit ?_; try simp only [ex_seq_exit, ex_block_exit, Nat.reduceEqDiff, if_true, if_false, ex_seq, ex_block, reduceCtorEq, ↓reduceIte]) | (refine tr_ret ?_; try simp only [ex_seq_ret, ex_block_ret]))
                              exact hK (i + 1) _ _ hil ⟨⟨rfl, rfl, rfl, trivial⟩, Keep.of (eh := [_, _]) (ew := []) rfl rfl, rfl, rfl, Nat.le_refl _, Nat.le_refl _⟩ (by omega)
                          · cases hf
              · cases hf
            · have q1 : decide ((i : Int) < (C.length : Nat)) = false := decide_eq_false (by omega)
              repeat (first | refine tr_seq_k fun _ _ => ?_ | (refine tr_region ?_; simp only [go_sem, reduceCtorEq, Nat.reduceEqDiff, Nat.reduceLT, Nat.reduceLeDiff, Nat.reduceAdd, Nat.reduceMul, Nat.reduceSub, Nat.reduceBEq, ↓reduceIte, q1]) | (refine tr_draw (id := 15) follows 10000 [9] [0, 1, 2, 3, 4, 5, 6, 7, 8, 9, 10] (by kernel_rfl) ?_; simp only [go_sem, reduceCtorEq, Nat.reduceEqDiff, Nat.reduceLT, Nat.reduceLeDiff, Nat.reduceAdd, Nat.reduceMul, Nat.reduceSub, Nat.reduceBEq, ↓reduceIte, q1]) | (refine tr_draw (id := 30) follows 10000 [43] [0, 1, 2, 3, 4, 5, 6, 7, 8, 9, 10, 11, 12, 13, 14, 15, 16, 17, 18, 19, 20, 21, 22, 23, 24, 25, 26, 27, 28, 29, 30, 31, 32, 33, 34, 35, 36, 37, 38, 39, 40, 41, 42, 43, 44, 45] (by kernel_rfl) ?_; simp only [go_sem, reduceCtorEq, Nat.reduceEqDiff, Nat.reduceLT, Nat.reduceLeDiff, Nat.reduceAdd, Nat.reduceMul, Nat.reduceSub, Nat.reduceBEq, ↓reduceIte, q1]) | refine k_of (by assumption) ?_ | refine tr_block ?_ | refine tr_scope ?_ | (refine tr_skip ?_; try simp only [ex_seq, ex_block]) | (refine tr_label ?_; try simp only [ex_seq, ex_block]) | (refine tr_exit ?_; try simp only [ex_seq_exit, ex_block_exit, Nat.reduceEqDiff, if_true, if_false, ex_seq, ex_block, reduceCtorEq, ↓reduceIte]) | (refine tr_ret ?_; try simp only [ex_seq_ret, ex_block_ret]))
              refine tr_cond rfl (fun ht => ?_) (fun hf => ?_)
              · cases ht
              · repeat (first | refine tr_seq_k fun _ _ => ?_ | (refine tr_region ?_; simp only [go_sem, reduceCtorEq, Nat.reduceEqDiff, Nat.reduceLT, Nat.reduceLeDiff, Nat.reduceAdd, Nat.reduceMul, Nat.reduceSub, Nat.reduceBEq, ↓reduceIte]) | (refine tr_draw (id := 15) follows 10000 [9] [0, 1, 2, 3, 4, 5, 6, 7, 8, 9, 10] (by kernel_rfl) ?_; simp only [go_sem, reduceCtorEq, Nat.reduceEqDiff, Nat.reduceLT, Nat.reduceLeDiff, Nat.reduceAdd, Nat.reduceMul, Nat.reduceSub, Nat.reduceBEq, ↓reduceIte]) | (refine tr_draw (id := 30) follows 10000 [43] [0, 1, 2, 3, 4, 5, 6, 7, 8, 9, 10, 11, 12, 13, 14, 15, 16, 17, 18, 19, 20, 21, 22, 23, 24, 25, 26, 27, 28, 29, 30, 31, 32, 33, 34, 35, 36, 37, 38, 39, 40, 41, 42, 43, 44, 45] (by kernel_rfl) ?_; simp only [go_sem, reduceCtorEq, Nat.reduceEqDiff, Nat.reduceLT, Nat.reduceLeDiff, Nat.reduceAdd, Nat.reduceMul, Nat.reduceSub, Nat.reduceBEq, ↓reduceIte]) | refine k_of (by assumption) ?_ | refine tr_block ?_ | refine tr_scope ?_ | (refine tr_skip ?_; try simp only [ex_seq, ex_block]) | (refine tr_label ?_; try simp only [ex_seq, ex_block]) | (refine tr_exit ?_; try simp only [ex_seq_exit, ex_block_exit, Nat.reduceEqDiff, if_true, if_false, ex_seq, ex_block, reduceCtorEq, ↓reduceIte]) | (refine tr_ret ?_; try simp only [ex_seq_ret, ex_block_ret]))
                refine (hQ _ _ [bA true] ?_ (fun m => ?_)).2 <;> simp only [go_sem, reduceCtorEq, Nat.reduceEqDiff, Nat.reduceLT, Nat.reduceLeDiff, Nat.reduceAdd, Nat.reduceMul, Nat.reduceSub, Nat.reduceBEq, ↓reduceIte, Try.f3,]
end Go.Proofs.Ytinbfakpjnnagaa
namespace Go.Vs.Ab
open Go.RowKit Go.Maps Go.ChangeShapes Go.WideShapes Go.Deep
theorem Reps.nil {X : Mem} : Reps X [] [] := ⟨rfl, fun i c x h => by simp at h⟩
theorem Reps.cons {X : Mem} {c : AV} {v : Value} {cs : List AV} {vs : List Value} (h : Rep X c v) (k : Reps X cs vs) : Reps X (c :: cs) (v :: vs) :=
  ⟨by simp [k.1], fun i d x h1 h2 => by
    cases i with
    | zero => simp at h1 h2; subst h1 h2; exact h
    | succ i => exact k.2 i d x (by simpa using h1) (by simpa using h2)⟩
theorem RepCs.nil {C : Nat → Nat → Option Value} : RepCs C [] [] := ⟨rfl, fun i c x h => by simp at h⟩
theorem RepCs.cons {C : Nat → Nat → Option Value} {c : CV} {v : Value} {cs : List CV} {vs : List Value} (h : RepC C c v) (k : RepCs C cs vs) : RepCs C (c :: cs) (v :: vs) :=
  ⟨by simp [k.1], fun i d x h1 h2 => by
    cases i with
    | zero => simp at h1 h2; subst h1 h2; exact h
    | succ i => exact k.2 i d x (by simpa using h1) (by simpa using h2)⟩
theorem RepCs.append {C : Nat → Nat → Option Value} {a b : List CV} {x y : List Value} (h : RepCs C a x) (k : RepCs C b y) : RepCs C (a ++ b) (x ++ y) := repcs_append h k
def Dec {T : Type} (d : Nat) (w : World) (ks : List Sh) (enc : T → List CV) (good : T → Prop) : Prop := ∀ cs, all2 (okc d w) ks cs → ∃ x, RepCs (all w).cell (enc x) cs ∧ good x
theorem dec_str {d : Nat} {w : World} {v : Value} (h : okc d w .str v) : ∃ s : ByteArray, RepC (all w).cell (.v (.string s)) v ∧ s.size ≤ maxLen := by
  cases d with
  | zero => exact h.elim
  | succ d => obtain ⟨s, rfl, hs⟩ := h; exact ⟨s, .v rfl, hs⟩
theorem dec_int {d : Nat} {w : World} {v : Value} (h : okc d w .int v) : ∃ n : Int, RepC (all w).cell (.v (.int .i64 n)) v ∧ (Lit.int .i64 n).wf = true := by
  cases d with
  | zero => exact h.elim
  | succ d => obtain ⟨s, rfl, hs⟩ := h; exact ⟨s, .v rfl, hs⟩
theorem dec_bool {d : Nat} {w : World} {v : Value} (h : okc d w .bool v) : ∃ b : Bool, RepC (all w).cell (.v (.bool b)) v := by
  cases d with
  | zero => exact h.elim
  | succ d => obtain ⟨s, rfl⟩ := h; exact ⟨s, .v rfl⟩
theorem rowsC_of {T : Type} {C : Nat → Nat → Option Value} (enc : T → List CV) (good : T → Prop) (k : Nat) : ∀ (n : Nat) (cs : List Value), cs.length = n * k →
    (∀ i, i < n → ∃ x, RepCs C (enc x) ((cs.drop (i * k)).take k) ∧ good x) → ∃ xs : List T, xs.length = n ∧ RepCs C (xs.flatMap enc) cs ∧ ∀ x ∈ xs, good x
  | 0, cs, hl, _ => by
    have : cs = [] := by simpa using hl
    subst this
    exact ⟨[], rfl, RepCs.nil, by simp⟩
  | n + 1, cs, hl, h => by
    obtain ⟨x, hx, hg⟩ := h 0 (by omega)
    rw [Nat.zero_mul, List.drop_zero] at hx
    obtain ⟨xs, h1, h2, h3⟩ := rowsC_of enc good k n (cs.drop k) (by rw [List.length_drop, hl, Nat.add_mul]; omega) (fun i hi => by
      obtain ⟨y, hy, hgy⟩ := h (i + 1) (by omega)
      refine ⟨y, ?_, hgy⟩
      rw [List.drop_drop]
      rwa [Nat.add_mul, Nat.one_mul, Nat.add_comm] at hy)
    refine ⟨x :: xs, by simp [h1], ?_, ?_⟩
    · rw [List.flatMap_cons]
      have := hx.append h2
      rwa [List.take_append_drop] at this
    · intro y hy
      rcases List.mem_cons.1 hy with rfl | hy
      · exact hg
      · exact h3 y hy
theorem dec_sl {T : Type} {d : Nat} {w : World} {es : List Sh} {enc : T → List CV} {good : T → Prop} (hdec : Dec d w es enc good) {v : Value} (h : okc (d + 1) w (.sl es) v) :
    ∃ l : List T, RepC (all w).cell (.sl false l.length (l.flatMap enc)) v ∧ ∀ x ∈ l, good x := by
  obtain ⟨n, cs, h1, h2⟩ := h
  obtain ⟨l, h3, h4, h5⟩ := rowsC_of (C := (all w).cell) enc good es.length n cs h1.1 (fun i hi => hdec _ (h2 i hi))
  refine ⟨l, ?_, h5⟩
  rcases h1.2 with ⟨rfl, h0⟩ | ⟨a, cap, rfl, g3, g4, g5⟩
  · have : l = [] := List.eq_nil_of_length_eq_zero (by omega)
    subst this
    exact .sl (xs := []) rfl (fun i c x h => by simp at h) (Nat.le_refl _) ⟨Nat.zero_le _, fun _ => rfl⟩ (fun e => by cases e) (fun j x hx => by simp at hx)
  · rw [h3]
    refine .sl (xs := cs) h4.1 h4.2 g3 ⟨g4, fun e => by cases e⟩ (fun e => by cases e) (fun j x hx => ?_)
    have h6 := g5 j x hx
    have hl := (List.getElem?_eq_some_iff.1 hx).1
    have h7 := g5 0 (cs[0]'(by omega)) (by simp)
    have hsp := spot_of_add h7
    obtain ⟨g, off, sp⟩ := a
    simp only at hsp
    subst hsp
    rw [add_none] at h6
    exact ⟨g, off, rfl, h6⟩
section
variable {H : Type} {enc : TypeId × Value → H} {P : Program} {w : World} {base b0 : Nat} {spare : Nat → Bool} {held : Bool} {r : Reach} {d : Nat} {t : TypeId} {v : Value} {x : DataW H} {ps : List MemPlace}
theorem open_agg {T : Type} {encT : T → List CV} {good : T → Prop} {fs : Array Field} {ks : List Sh} (ht : P.underlying t = some (.struct fs)) (hs : shapeOf P d t = some ks) (hdec : Dec d w ks encT good) (hval : Value.okWide P w r b0 t v) (hd : DataW.Trod enc P w base spare held t v x ps) :
    ∃ a : T, Rep (all w) (.agg (encT a)) v ∧ good a := by
  obtain ⟨cs, rfl, h⟩ := arg_struct ht hs hval hd
  obtain ⟨a, h1, h2⟩ := hdec cs h
  exact ⟨a, .agg h1, h2⟩
end
def AtOk (a : Atm) : Prop := a.says.size ≤ maxLen ∧ a.pred.size ≤ maxLen ∧ (Lit.int .i64 a.n).wf = true ∧ a.a0.name.size ≤ maxLen ∧ a.a1.name.size ≤ maxLen ∧ a.a2.name.size ≤ maxLen ∧ a.a3.name.size ≤ maxLen
theorem stD {d : Nat} {w : World} : Dec d w [.str] stC (fun s => s.size ≤ maxLen) := fun cs t0 => by
  obtain ⟨c0, r0, rfl, h0, t1⟩ := all2_cons t0
  obtain rfl := all2_nil t1
  obtain ⟨x0, e0, g0⟩ := dec_str h0
  exact ⟨x0, .cons e0 .nil, g0⟩
theorem atD {d : Nat} {w : World} : Dec d w [.str, .str, .int, .bool, .str, .bool, .str, .bool, .str, .bool, .str] atC AtOk := fun cs t0 => by
  obtain ⟨c0, r0, rfl, h0, t1⟩ := all2_cons t0
  obtain ⟨c1, r1, rfl, h1, t2⟩ := all2_cons t1
  obtain ⟨c2, r2, rfl, h2, t3⟩ := all2_cons t2
  obtain ⟨c3, r3, rfl, h3, t4⟩ := all2_cons t3
  obtain ⟨c4, r4, rfl, h4, t5⟩ := all2_cons t4
  obtain ⟨c5, r5, rfl, h5, t6⟩ := all2_cons t5
  obtain ⟨c6, r6, rfl, h6, t7⟩ := all2_cons t6
  obtain ⟨c7, r7, rfl, h7, t8⟩ := all2_cons t7
  obtain ⟨c8, r8, rfl, h8, t9⟩ := all2_cons t8
  obtain ⟨c9, r9, rfl, h9, t10⟩ := all2_cons t9
  obtain ⟨c10, r10, rfl, h10, t11⟩ := all2_cons t10
  obtain rfl := all2_nil t11
  obtain ⟨x0, e0, g0⟩ := dec_str h0
  obtain ⟨x1, e1, g1⟩ := dec_str h1
  obtain ⟨x2, e2, g2⟩ := dec_int h2
  obtain ⟨x3, e3⟩ := dec_bool h3
  obtain ⟨x4, e4, g4⟩ := dec_str h4
  obtain ⟨x5, e5⟩ := dec_bool h5
  obtain ⟨x6, e6, g6⟩ := dec_str h6
  obtain ⟨x7, e7⟩ := dec_bool h7
  obtain ⟨x8, e8, g8⟩ := dec_str h8
  obtain ⟨x9, e9⟩ := dec_bool h9
  obtain ⟨x10, e10, g10⟩ := dec_str h10
  exact ⟨⟨x0, x1, x2, ⟨x3, x4⟩, ⟨x5, x6⟩, ⟨x7, x8⟩, ⟨x9, x10⟩⟩, .cons e0 (.cons e1 (.cons e2 (.cons e3 (.cons e4 (.cons e5 (.cons e6 (.cons e7 (.cons e8 (.cons e9 (.cons e10 .nil)))))))))), g0, g1, g2, g4, g6, g8, g10⟩
end Go.Vs.Ab
namespace Go.Vs.Ab
open Go.RowKit Go.Maps Go.ChangeShapes Go.WideShapes Go.Deep
section
variable {H : Type} {enc : TypeId × Value → H} {P : Program} {w : World} {base : Nat} {spare : Nat → Bool} {held : Bool}
end
section
variable {H : Type} {enc : TypeId × Value → H} {P : Program} {w : World} {base b0 : Nat} {spare : Nat → Bool} {held : Bool} {r : Reach} {d : Nat} {t : TypeId} {v : Value} {x : DataW H} {ps : List MemPlace}
end
theorem all2_split {α β : Type} {R : α → β → Prop} : ∀ {a b : List α} {cs : List β}, all2 R (a ++ b) cs → ∃ x y, cs = x ++ y ∧ all2 R a x ∧ all2 R b y
  | [], b, cs, h => ⟨[], cs, rfl, trivial, h⟩
  | k :: a, b, cs, h => by
    obtain ⟨c, r, rfl, h0, h1⟩ := all2_cons (show all2 R (k :: (a ++ b)) cs from h)
    obtain ⟨x, y, rfl, h2, h3⟩ := all2_split h1
    exact ⟨c :: x, y, rfl, ⟨h0, h2⟩, h3⟩
def atSh : List Sh := [.str, .str, .int, .bool, .str, .bool, .str, .bool, .str, .bool, .str]
end Go.Vs.Ab
namespace Go.Proofs.Ytinbfakpjnnagaa
open Go.RowKit Go.Vs Go.Vs.Ab
theorem prD {d : Nat} {w : World} : Dec d w [.str, .int] prC (fun _ => True) := fun cs t => by
  obtain ⟨c0, r0, rfl, h0, t⟩ := all2_cons t
  obtain ⟨c1, r1, rfl, h1, t⟩ := all2_cons t
  obtain rfl := all2_nil t
  obtain ⟨x0, e0, g0⟩ := dec_str h0
  obtain ⟨x1, e1, g1⟩ := dec_int h1
  exact ⟨⟨x0, x1⟩, .cons e0 (.cons e1 .nil), trivial⟩
theorem clD {d : Nat} {w : World} : Dec (d + 1) w [.str, .sl [.str]] clC (fun _ => True) := fun cs t => by
  obtain ⟨c0, r0, rfl, h0, t⟩ := all2_cons t
  obtain ⟨c1, r1, rfl, h1, t⟩ := all2_cons t
  obtain rfl := all2_nil t
  obtain ⟨x0, e0, g0⟩ := dec_str h0
  obtain ⟨l, e1, g1⟩ := dec_sl stD h1
  exact ⟨⟨x0, false, l⟩, .cons e0 (.cons e1 .nil), trivial⟩
theorem ruD {d : Nat} {w : World} : Dec (d + 1) w (atSh ++ [.sl atSh]) ruC (fun _ => True) := fun cs t => by
  obtain ⟨x, y, rfl, t0, t1⟩ := all2_split t
  obtain ⟨a, e0, g0⟩ := atD x t0
  obtain ⟨c1, r1, rfl, h1, t1⟩ := all2_cons t1
  obtain rfl := all2_nil t1
  obtain ⟨l, e1, g1⟩ := dec_sl atD h1
  exact ⟨⟨a, false, l⟩, RepCs.append e0 (.cons e1 .nil), trivial⟩
theorem grD {d : Nat} {w : World} : Dec (d + 1) w (.str :: (atSh ++ [.sl atSh])) grC (fun _ => True) := fun cs t => by
  obtain ⟨c0, r0, rfl, h0, t⟩ := all2_cons t
  obtain ⟨x, y, rfl, t0, t1⟩ := all2_split t
  obtain ⟨s, e, _⟩ := dec_str h0
  obtain ⟨a, e0, g0⟩ := atD x t0
  obtain ⟨c1, r1, rfl, h1, t1⟩ := all2_cons t1
  obtain rfl := all2_nil t1
  obtain ⟨l, e1, g1⟩ := dec_sl atD h1
  exact ⟨⟨s, a, false, l⟩, .cons e (RepCs.append e0 (.cons e1 .nil)), trivial⟩
def poSh13 : List Sh := [.sl [.str], .sl [.str, .int], .sl [.str, .sl [.str]], .int, .int, .sl (atSh ++ [.sl atSh]), .sl (.str :: (atSh ++ [.sl atSh]))]
theorem poD {d : Nat} {w : World} : Dec (d + 2) w poSh13 poC (fun _ => True) := fun cs t => by
  obtain ⟨c0, r0, rfl, h0, t⟩ := all2_cons t
  obtain ⟨c1, r1, rfl, h1, t⟩ := all2_cons t
  obtain ⟨c2, r2, rfl, h2, t⟩ := all2_cons t
  obtain ⟨c3, r3, rfl, h3, t⟩ := all2_cons t
  obtain ⟨c4, r4, rfl, h4, t⟩ := all2_cons t
  obtain ⟨c5, r5, rfl, h5, t⟩ := all2_cons t
  obtain ⟨c6, r6, rfl, h6, t⟩ := all2_cons t
  obtain rfl := all2_nil t
  obtain ⟨l0, e0, g0⟩ := dec_sl stD h0
  obtain ⟨l1, e1, g1⟩ := dec_sl prD h1
  obtain ⟨l2, e2, g2⟩ := dec_sl clD h2
  obtain ⟨q, e3, g3⟩ := dec_int h3
  obtain ⟨b, e4, g4⟩ := dec_int h4
  obtain ⟨l5, e5, g5⟩ := dec_sl ruD h5
  obtain ⟨l6, e6, g6⟩ := dec_sl grD h6
  exact ⟨⟨false, l0, false, l1, false, l2, q, b, false, l5, false, l6⟩, .cons e0 (.cons e1 (.cons e2 (.cons e3 (.cons e4 (.cons e5 (.cons e6 .nil)))))), trivial⟩
end Go.Proofs.Ytinbfakpjnnagaa
namespace Go.Proofs.Ytinbfakpjnnagaa
end Go.Proofs.Ytinbfakpjnnagaa
namespace Go.Proofs.Ytinbfakpjnnagaa.ranges
open Go.ChangeShapes Go.WideShapes Go.ChangeAt Go.RowKit Go.Vs Go.Vs.Ab
theorem own : ownKnob Try.prog.godebug = none := by kernel_rfl
theorem laidOut : laidOutB Try.prog = true := by kernel_rfl
theorem readable : (Try.f3.params.toList.all fun t => Try.prog.readableRec t && decide (t < Try.prog.types.size)) = true := by kernel_rfl
theorem shape28 : shapeOf Try.prog 8 28 = some poSh13 := by kernel_rfl
set_option maxRecDepth 100000 in
theorem lifted (os : Os) (started : os.Started) (H : Type) (enc : TypeId × Value → H) :
    ReturnsInHanded {} Try.checked os 3 .any (Rows.desugarRangesSpec.pre6 enc Try.prog Try.f3 Rows.desugarRangesRow.domain false) (Rows.desugarRangesSpec.post enc Try.prog Try.f3 false true false false) := by
  refine returnsInHanded_of_change (C := Try.checked) own started (by kernel_rfl) Try.func3
    (ChangeSpec.witness6 (enc := enc) (C := Try.checked) false ⟨#[], #[.agg #[.slice none 0 0, .slice none 0 0, .slice none 0 0, .int .i64 0, .int .i64 0, .slice none 0 0, .slice none 0 0]], []⟩ 8 (by kernel_rfl) (by kernel_rfl) (by kernel_rfl) (by kernel_rfl)) ?_
  intro W base args ds gs before hval0 hW hcnd _
  have hval : ∀ (j : Nat) t v, Try.f3.params[j]? = some t → args[j]? = some v → Value.okWide Try.prog W .any base t v := hval0
  have hW' := hW
  obtain ⟨p, q, hA0, hV, rfl, hfz, hnd⟩ := hW
  have hA : DataW.TrodAll enc Try.prog W 0 (fun _ => true) true Try.f3.params.toList args.toList ds p := hA0
  rw [Try.params3] at hA hval
  obtain ⟨v0, vs0, d0, ds0, p0, q0, hargs, rfl, rfl, h0, r0⟩ := trodAll_cons hA
  obtain ⟨rfl, rfl, rfl⟩ := trodAll_nil r0
  obtain rfl : args = #[v0] := by cases args; simp_all
  obtain ⟨rfl, rfl⟩ := trodVars_none hV
  obtain ⟨a0, R0, _⟩ := open_agg Try.underlying28 shape28 poD (hval 0 28 v0 rfl rfl) h0
  refine ((ranges13_does a0).bool (Reps.cons R0 Reps.nil)).mono fun e W' ⟨he, hb⟩ => ?_
  subst he
  refine ⟨_, rfl, law_post (tb := 4) hW' rfl rfl laidOut (fun t ht => ?_) rfl Try.underlying4 hb⟩
  have := List.all_eq_true.1 readable t ht
  simp only [Bool.and_eq_true, decide_eq_true_eq] at this
  exact this
theorem holds : Rows.DesugarRangesSaid :=
  OpenClaim.holds_of_wide 3 Try.f3 rfl rfl rfl rfl rfl rfl rfl ⟨rfl, rfl, rfl, rfl, rfl⟩ rfl rfl rfl rfl rfl (by kernel_rfl) Try.func3 (by kernel_rfl)
    (of_decide_eq_true (by kernel_rfl)) (by unfold Func.isWrapper; first | (rw [if_pos (by decide +kernel)]; kernel_rfl) | (rw [if_neg (by decide +kernel)]; exact ⟨rfl, rfl⟩))
    (fun os started H enc _ => lifted os started H enc)
#print axioms holds
end Go.Proofs.Ytinbfakpjnnagaa.ranges
