/-
  Part 2 of the proof's own texts: general lemmas and contracts of functions, laid one behind the other.
-/
import Derived.Test.YtinbfakpjnnagaaTm1
import Derived.Test.YtinbfakpjnnagaaTDh
import Derived.Test.YtinbfakpjnnagaaTBd
import Derived.Lib.AppendStr
import Derived.Lib.Builder
import Derived.Lib.UnsafeStr
import Derived.WalkKit
import Derived.Laws.Externs
import Derived.Lib.Hide
import Derived.Shelf.Strconv.Itoa3
import Derived.Lib.ItoaLen
set_option linter.unusedSimpArgs false
set_option linter.unusedVariables false
namespace Go.Proofs.Ytinbfakpjnnagaa
open Go.RowKit Go.Lib Go.Vs Go.Vs.Ab
set_option maxRecDepth 100000
set_option maxHeartbeats 4000000
theorem repcs_split {C : Nat → Nat → Option Value} {a b : List CV} {xs : List Value} (h : RepCs C (a ++ b) xs) : ∃ x y, xs = x ++ y ∧ RepCs C a x ∧ RepCs C b y := by
  have hl : (a ++ b).length = xs.length := h.1
  rw [List.length_append] at hl
  refine ⟨xs.take a.length, xs.drop a.length, (List.take_append_drop _ _).symm, ⟨by rw [List.length_take]; omega, fun i c x h1 h2 => ?_⟩, ⟨by rw [List.length_drop]; omega, fun i c x h1 h2 => ?_⟩⟩
  · have hi := (List.getElem?_eq_some_iff.1 h1).1
    rw [List.getElem?_take, if_pos hi] at h2
    exact h.2 i c x (by rw [List.getElem?_append_left hi]; exact h1) h2
  · rw [List.getElem?_drop] at h2
    exact h.2 (a.length + i) c x (by rw [List.getElem?_append_right (by omega), Nat.add_sub_cancel_left]; exact h1) h2
theorem repcs_one {C : Nat → Nat → Option Value} {c : CV} {xs : List Value} (h : RepCs C [c] xs) : ∃ x, xs = [x] ∧ RepC C c x := by
  obtain ⟨x, rfl⟩ := List.length_eq_one_iff.1 h.1.symm
  exact ⟨x, rfl, h.2 0 _ _ rfl rfl⟩
theorem repcs_join {C : Nat → Nat → Option Value} {a b : List CV} {x y : List Value} (h : RepCs C a x) (k : RepCs C b y) : RepCs C (a ++ b) (x ++ y) := by
  refine ⟨by rw [List.length_append, List.length_append, h.1, k.1], fun i c u h1 h2 => ?_⟩
  by_cases hi : i < a.length
  · rw [List.getElem?_append_left hi] at h1
    rw [List.getElem?_append_left (by rw [← h.1]; exact hi)] at h2
    exact h.2 i c u h1 h2
  · rw [List.getElem?_append_right (by omega)] at h1
    rw [List.getElem?_append_right (by rw [← h.1]; omega), ← h.1] at h2
    exact k.2 _ c u h1 h2
def clsC (c : Cls) : List CV := [.v (.string c.head.says), .v (.string c.head.pred), .v (.int .i64 c.head.n), .v (.bool c.head.a0.v), .v (.string c.head.a0.name), .v (.bool c.head.a1.v), .v (.string c.head.a1.name), .v (.bool c.head.a2.v), .v (.string c.head.a2.name), .v (.bool c.head.a3.v), .v (.string c.head.a3.name), slC atC c.ex c.body]
abbrev clsA (c : Cls) : AV := .agg (clsC c)
theorem grantcl_does (h : Atm) (tw : ByteArray) (l : List Atm) (ex : Bool) (hl : l.length ≤ 100000) : Does Try.prog 40 [.agg ([.v (.string h.says), .v (.string h.pred), .v (.int .i64 h.n), .v (.bool h.a0.v), .v (.string h.a0.name), .v (.bool h.a1.v), .v (.string h.a1.name), .v (.bool h.a2.v), .v (.string h.a2.name), .v (.bool h.a3.v), .v (.string h.a3.name)] ++ [slC atC ex l] ++ [.v (.string tw)])] (fun m => (.agg ([.v (.string h.says), .v (.string h.pred), .v (.int .i64 h.n), .v (.bool h.a0.v), .v (.string h.a0.name), .v (.bool h.a1.v), .v (.string h.a1.name), .v (.bool h.a2.v), .v (.string h.a2.name), .v (.bool h.a3.v), .v (.string h.a3.name)] ++ [.sl false (l.length + 1) ((({ h with says := tw } : Atm) :: l).flatMap atC)]), m)) := by
  refine does_of_rdW (enc := atC) (encV := fun a => a.cells.toList) (size := 11) (l := ({ h with says := tw } : Atm) :: l) vals_atC one_atC (fun c => .agg ([.v (.string h.says), .v (.string h.pred), .v (.int .i64 h.n), .v (.bool h.a0.v), .v (.string h.a0.name), .v (.bool h.a1.v), .v (.string h.a1.name), .v (.bool h.a2.v), .v (.string h.a2.name), .v (.bool h.a3.v), .v (.string h.a3.name)] ++ [c])) (fun v => .agg (h.cells ++ #[v])) (fun X c v hr => ?_) (callable Try.func40 (by kernel_rfl)) (fun X w vs hcell hargs => ?_)
  · refine .agg ?_
    rw [Array.toList_append]
    exact repcs_join (repcs_vals (vals_atC h) (one_atC h)) ⟨rfl, fun i d x h1 h2 => by
      match i with
      | 0 => simp at h1 h2; subst h1 h2; exact hr
      | i + 1 => simp at h1⟩
  · obtain ⟨v, hv, hr⟩ := reps1 hargs
    cases hr with
    | agg hr =>
      rename_i xs
      obtain ⟨y, z, e1, q1, q2⟩ := repcs_split hr
      obtain ⟨y1, y2, e2, q3, q4⟩ := repcs_split q1
      obtain ⟨s, rfl, q5⟩ := repcs_one q2
      obtain ⟨u, rfl, q6⟩ := repcs_one q4
      obtain rfl := vals_rep (vals_atC h) q3
      obtain rfl : s = .string tw := by cases q5; rfl
      have hvs : vs = #[.agg (h.cells ++ #[u] ++ #[.string tw])] := by
        apply Array.ext'
        rw [hv]
        congr 2
        apply Array.ext'
        rw [e1, e2]
        simp
      rw [hvs]
      exact grant_raw h tw l hl w u (rd_slR (ex := ex) vals_atC (fun _ => rfl) hcell (.c q6) (by decide)) (by intro p hp; simp [tabs] at hp)
theorem gr13_does (g : Grt) (hl : g.body.length ≤ 100000) : Does Try.prog 15 [grA g] (fun m => (clsA (grCls g), m)) := by
  have c1 := grantcl_does g.head g.tw g.body g.ex hl
  refine does_of' Try.func15 rfl (by kernel_rfl) rfl Try.ntmps15 rfl rfl fun Q hQ => ?_
  repeat (first | refine tr_seq_k fun _ _ => ?_ | (refine tr_region ?_; simp only [go_sem, reduceCtorEq, Nat.reduceEqDiff, Nat.reduceLT, Nat.reduceLeDiff, Nat.reduceAdd, Nat.reduceMul, Nat.reduceSub, Nat.reduceBEq, ↓reduceIte]) | (refine call_of (c1) ?_ ?_; (first | rfl | simp only [go_sem, reduceCtorEq, Nat.reduceEqDiff, Nat.reduceLT, Nat.reduceLeDiff, Nat.reduceAdd, Nat.reduceMul, Nat.reduceSub, Nat.reduceBEq, ↓reduceIte, shut_col]); simp only [go_sem, reduceCtorEq, Nat.reduceEqDiff, Nat.reduceLT, Nat.reduceLeDiff, Nat.reduceAdd, Nat.reduceMul, Nat.reduceSub, Nat.reduceBEq, ↓reduceIte]) | refine k_of (by assumption) ?_ | (refine tr_ret ?_; try simp only [ex_seq_ret, ex_block_ret]))
  refine (hQ _ _ [clsA (grCls g)] ?_ (fun m => rfl)).2 <;> simp only [go_sem, reduceCtorEq, Nat.reduceEqDiff, Nat.reduceLT, Nat.reduceLeDiff, Nat.reduceAdd, Nat.reduceMul, Nat.reduceSub, Nat.reduceBEq, ↓reduceIte, Try.f15]
  rfl
theorem stated_does (h : Atm) (l : List Atm) (ex : Bool) (hl : l.length ≤ 1000000) : Does Try.prog 26 [.agg ([.v (.string h.says), .v (.string h.pred), .v (.int .i64 h.n), .v (.bool h.a0.v), .v (.string h.a0.name), .v (.bool h.a1.v), .v (.string h.a1.name), .v (.bool h.a2.v), .v (.string h.a2.name), .v (.bool h.a3.v), .v (.string h.a3.name)] ++ [slC atC ex l])] (fun m => (.agg ([.v (.string h.says), .v (.string h.pred), .v (.int .i64 h.n), .v (.bool h.a0.v), .v (.string h.a0.name), .v (.bool h.a1.v), .v (.string h.a1.name), .v (.bool h.a2.v), .v (.string h.a2.name), .v (.bool h.a3.v), .v (.string h.a3.name)] ++ [slC atC l.isEmpty l]), m)) := by
  have c1 := (cloneA_own l ex hl).shut
  refine does_of' Try.func26 rfl (by kernel_rfl) rfl Try.ntmps26 rfl rfl fun Q hQ => ?_
  repeat (first | refine tr_seq_k fun _ _ => ?_ | (refine tr_region ?_; simp only [go_sem, reduceCtorEq, Nat.reduceEqDiff, Nat.reduceLT, Nat.reduceLeDiff, Nat.reduceAdd, Nat.reduceMul, Nat.reduceSub, Nat.reduceBEq, ↓reduceIte]) | (refine tr_draw (id := 1) follows 6 [4, 6] [0, 1, 2, 3, 4, 5, 6] (by kernel_rfl) ?_; simp only [go_sem, reduceCtorEq, Nat.reduceEqDiff, Nat.reduceLT, Nat.reduceLeDiff, Nat.reduceAdd, Nat.reduceMul, Nat.reduceSub, Nat.reduceBEq, ↓reduceIte]) | (refine call_of (c1) ?_ ?_; (first | rfl | simp only [go_sem, reduceCtorEq, Nat.reduceEqDiff, Nat.reduceLT, Nat.reduceLeDiff, Nat.reduceAdd, Nat.reduceMul, Nat.reduceSub, Nat.reduceBEq, ↓reduceIte, shut_col]); simp only [go_sem, reduceCtorEq, Nat.reduceEqDiff, Nat.reduceLT, Nat.reduceLeDiff, Nat.reduceAdd, Nat.reduceMul, Nat.reduceSub, Nat.reduceBEq, ↓reduceIte]) | refine k_of (by assumption) ?_ | (refine tr_ret ?_; try simp only [ex_seq_ret, ex_block_ret]))
  refine (hQ _ _ [.agg ([.v (.string h.says), .v (.string h.pred), .v (.int .i64 h.n), .v (.bool h.a0.v), .v (.string h.a0.name), .v (.bool h.a1.v), .v (.string h.a1.name), .v (.bool h.a2.v), .v (.string h.a2.name), .v (.bool h.a3.v), .v (.string h.a3.name)] ++ [slC atC l.isEmpty l])] ?_ (fun m => rfl)).2 <;> simp only [go_sem, reduceCtorEq, Nat.reduceEqDiff, Nat.reduceLT, Nat.reduceLeDiff, Nat.reduceAdd, Nat.reduceMul, Nat.reduceSub, Nat.reduceBEq, ↓reduceIte, Try.f26]
/-! ### the clauses -/
theorem info_c13 : info3 Try.prog 43 = some (12, 160) := by simp only [info3, sz43, by43, ze43]; rfl
theorem bld1C13 (c : Cls) : aBuildSlice Try.prog 33 1 [(0, clsA c)] = some (clsC c) := by
  simp only [aBuildSlice, Try.underlying33, sz43, ze43]
  rfl
theorem bld1R (h : Atm) (l : List Atm) : aBuildSlice Try.prog 33 1 [(0, .agg [.v (.string h.says), .v (.string h.pred), .v (.int .i64 h.n), .v (.bool h.a0.v), .v (.string h.a0.name), .v (.bool h.a1.v), .v (.string h.a1.name), .v (.bool h.a2.v), .v (.string h.a2.name), .v (.bool h.a3.v), .v (.string h.a3.name), slC atC l.isEmpty l])] = some (clsC ⟨h, l.isEmpty, l⟩) := bld1C13 ⟨h, l.isEmpty, l⟩
theorem colH_le1 {T : Type} {e size : Nat} {l k : List T} {x : T} : (colH e size l).length ≤ (colH e size (k ++ [x])).length := by
  cases l <;> cases k <;> simp [colH]
def clsT (p : Pol) (k : Nat) : List Cls := (p.rules.take k).map ruCls
def clsG (p : Pol) (k : Nat) : List Cls := p.rules.map ruCls ++ (p.grants.take k).map grCls
theorem clsT_next {p : Pol} {k : Nat} (hk : k < p.rules.length) : clsT p (k + 1) = clsT p k ++ [ruCls p.rules[k]] := by
  unfold clsT
  rw [List.take_succ_eq_append_getElem hk, List.map_append]
  rfl
theorem clsG_next {p : Pol} {k : Nat} (hk : k < p.grants.length) : clsG p (k + 1) = clsG p k ++ [grCls p.grants[k]] := by
  unfold clsG
  rw [List.take_succ_eq_append_getElem hk, List.map_append, List.append_assoc]
  rfl
theorem appCl13 (hp : List Blk) (l : List Cls) (c : Cls) (hl : l.length ≤ 1000000) : aAppend Try.prog ⟨hp, colH 43 12 l⟩ 33 (colA clsC 0 l) (.c (.sl true 1 (clsC c))) = some (colA clsC 0 (l ++ [c]), ⟨hp, colH 43 12 (l ++ [c])⟩) :=
  app_col0 (P := Try.prog) clsC (size := 12) (fun _ => rfl) Try.underlying33 info_c13 (hp := hp) (l := l) (x := c) (ex := true) (Nat.le_trans (show _ ≤ 1000001 by omega) (by decide)) (by omega)
theorem clauses_does (p : Pol) (h1 : p.rules.length ≤ 100000) (h2 : p.grants.length ≤ 100000) (h3 : ∀ r ∈ p.rules, r.body.length ≤ 100000) (h4 : ∀ g ∈ p.grants, g.body.length ≤ 100000) : Does Try.prog 8 [poA p] (freshA clsC 43 12 (clausesF p)) := by
  refine does_of' Try.func8 rfl (by kernel_rfl) rfl Try.ntmps8 rfl rfl fun Q hQ => ?_
  repeat (first | refine tr_seq_k fun _ _ => ?_ | (refine tr_region ?_; simp only [go_sem, reduceCtorEq, Nat.reduceEqDiff, Nat.reduceLT, Nat.reduceLeDiff, Nat.reduceAdd, Nat.reduceMul, Nat.reduceSub, Nat.reduceBEq, ↓reduceIte]) | refine k_of (by assumption) ?_ | refine tr_block ?_)
  refine tr_loop_k (σ := Nat) (fun k => [(1, .ptr 0 0), (3, colA clsC 0 (clsT p k)), (9, .c (slC ruC p.e4 p.rules)), (10, iA p.rules.length), (11, iA k)]) (fun k => ⟨[⟨false, [.c (slC stC p.e1 p.prin), .c (slC prC p.e2 p.preds), .c (slC clC p.e3 p.clears), iA p.quota, iA p.budget, .c (slC ruC p.e4 p.rules), .c (slC grC p.e5 p.grants)]⟩], colH 43 12 (clsT p k)⟩)
    (fun k => k ≤ p.rules.length) (fun k => p.rules.length - k) 0 (Nat.zero_le _) ⟨rfl, rfl, rfl, rfl, rfl, trivial⟩ rfl ?_
  rintro k hk K hK
  repeat (first | refine tr_seq_k fun _ _ => ?_ | (refine tr_region ?_; simp only [go_sem, reduceCtorEq, Nat.reduceEqDiff, Nat.reduceLT, Nat.reduceLeDiff, Nat.reduceAdd, Nat.reduceMul, Nat.reduceSub, Nat.reduceBEq, ↓reduceIte]) | refine k_of (by assumption) ?_)
  refine tr_cond rfl (fun ht => ?_) (fun hf => ?_)
  · have hlt : k < p.rules.length := by simpa using ht
    have ws := wrap_succ (show k ≤ 1000000000 by omega)
    have ix := idxRu (ex := p.e4) hlt
    have on := clsT_next hlt
    have tl : (clsT p k).length ≤ k := by unfold clsT; rw [List.length_map, List.length_take]; omega
    have hb := h3 _ (List.getElem_mem hlt)
    generalize p.rules[k] = x at *
    have cS := stated_does x.head x.body x.ex (by omega)
    have hA0 := fun hp => appCl13 hp (clsT p k) ⟨x.head, x.body.isEmpty, x.body⟩ (by omega)
    rw [show clsT p k ++ [(⟨x.head, x.body.isEmpty, x.body⟩ : Cls)] = clsT p (k + 1) from on.symm] at hA0
    have hb1 := bld1R x.head x.body
    repeat (first | refine tr_seq_k fun _ _ => ?_ | (refine tr_region ?_; simp only [go_sem, reduceCtorEq, Nat.reduceEqDiff, Nat.reduceLT, Nat.reduceLeDiff, Nat.reduceAdd, Nat.reduceMul, Nat.reduceSub, Nat.reduceBEq, ↓reduceIte, ix, hb1, one_max, hA0, ws]) | (refine call_of (cS) ?_ ?_; (first | rfl | simp only [go_sem, reduceCtorEq, Nat.reduceEqDiff, Nat.reduceLT, Nat.reduceLeDiff, Nat.reduceAdd, Nat.reduceMul, Nat.reduceSub, Nat.reduceBEq, ↓reduceIte, ix, hb1, one_max, hA0, ws, shut_col]); simp only [go_sem, reduceCtorEq, Nat.reduceEqDiff, Nat.reduceLT, Nat.reduceLeDiff, Nat.reduceAdd, Nat.reduceMul, Nat.reduceSub, Nat.reduceBEq, ↓reduceIte, ix, hb1, one_max, hA0, ws]) | refine k_of (by assumption) ?_ | refine tr_block ?_ | (refine tr_skip ?_; try simp only [ex_seq, ex_block]))
    exact hK (k + 1) _ _ hlt ⟨⟨rfl, rfl, rfl, rfl, rfl, trivial⟩, Keep.of (eh := [_]) (ew := []) rfl (by rw [List.append_nil]), by simp only [lowF, low_col]; rfl, rfl, Nat.le_refl _, Nat.zero_le _⟩ (by omega)
  · have hkl : k = p.rules.length := by
      have := of_decide_eq_false hf
      omega
    subst hkl
    have e0 : clsT p p.rules.length = clsG p 0 := by unfold clsT clsG; rw [List.take_length, List.take_zero, List.map_nil, List.append_nil]
    rw [e0]
    repeat (first | refine tr_seq_k fun _ _ => ?_ | (refine tr_region ?_; simp only [go_sem, reduceCtorEq, Nat.reduceEqDiff, Nat.reduceLT, Nat.reduceLeDiff, Nat.reduceAdd, Nat.reduceMul, Nat.reduceSub, Nat.reduceBEq, ↓reduceIte]) | refine k_of (by assumption) ?_ | refine tr_block ?_ | (refine tr_exit ?_; try simp only [ex_seq_exit, ex_block_exit, Nat.reduceEqDiff, if_true, if_false, ex_seq, ex_block, reduceCtorEq, ↓reduceIte]))
    refine tr_loop_k (σ := Nat) (fun k => [(1, .ptr 0 0), (3, colA clsC 0 (clsG p k)), (28, .c (slC grC p.e5 p.grants)), (29, iA p.grants.length), (30, iA k)]) (fun k => ⟨[⟨false, [.c (slC stC p.e1 p.prin), .c (slC prC p.e2 p.preds), .c (slC clC p.e3 p.clears), iA p.quota, iA p.budget, .c (slC ruC p.e4 p.rules), .c (slC grC p.e5 p.grants)]⟩], colH 43 12 (clsG p k)⟩)
      (fun k => k ≤ p.grants.length) (fun k => p.grants.length - k) 0 (Nat.zero_le _) ⟨rfl, rfl, rfl, rfl, rfl, trivial⟩ rfl ?_
    rintro k hk K hK
    repeat (first | refine tr_seq_k fun _ _ => ?_ | (refine tr_region ?_; simp only [go_sem, reduceCtorEq, Nat.reduceEqDiff, Nat.reduceLT, Nat.reduceLeDiff, Nat.reduceAdd, Nat.reduceMul, Nat.reduceSub, Nat.reduceBEq, ↓reduceIte]) | refine k_of (by assumption) ?_)
    refine tr_cond rfl (fun ht => ?_) (fun hf => ?_)
    · have hlt : k < p.grants.length := by simpa using ht
      have ws := wrap_succ (show k ≤ 1000000000 by omega)
      have ix := idxGr (ex := p.e5) hlt
      have on := clsG_next hlt
      have tl : (clsG p k).length ≤ p.rules.length + k := by unfold clsG; rw [List.length_append, List.length_map, List.length_map, List.length_take]; omega
      have hb := h4 _ (List.getElem_mem hlt)
      generalize p.grants[k] = x at *
      have cS := gr13_does x hb
      have hA0 := fun hp => appCl13 hp (clsG p k) (grCls x) (by omega)
      rw [← on] at hA0
      have hb1 := bld1C13 (grCls x)
      repeat (first | refine tr_seq_k fun _ _ => ?_ | (refine tr_region ?_; simp only [go_sem, reduceCtorEq, Nat.reduceEqDiff, Nat.reduceLT, Nat.reduceLeDiff, Nat.reduceAdd, Nat.reduceMul, Nat.reduceSub, Nat.reduceBEq, ↓reduceIte, ix, hb1, one_max, hA0, ws]) | (refine call_of (cS) ?_ ?_; (first | rfl | simp only [go_sem, reduceCtorEq, Nat.reduceEqDiff, Nat.reduceLT, Nat.reduceLeDiff, Nat.reduceAdd, Nat.reduceMul, Nat.reduceSub, Nat.reduceBEq, ↓reduceIte, ix, hb1, one_max, hA0, ws, shut_col]); simp only [go_sem, reduceCtorEq, Nat.reduceEqDiff, Nat.reduceLT, Nat.reduceLeDiff, Nat.reduceAdd, Nat.reduceMul, Nat.reduceSub, Nat.reduceBEq, ↓reduceIte, ix, hb1, one_max, hA0, ws]) | refine k_of (by assumption) ?_ | refine tr_block ?_ | (refine tr_skip ?_; try simp only [ex_seq, ex_block]))
      exact hK (k + 1) _ _ hlt ⟨⟨rfl, rfl, rfl, rfl, rfl, trivial⟩, Keep.of (eh := [_]) (ew := []) rfl (by rw [List.append_nil]), by simp only [lowF, low_col]; rfl, rfl, Nat.le_refl _, by dsimp only; rw [on]; exact colH_le1⟩ (by omega)
    · have hkl : k = p.grants.length := by
        have := of_decide_eq_false hf
        omega
      subst hkl
      have e1 : clsG p p.grants.length = clausesF p := by unfold clsG clausesF; rw [List.take_length]
      rw [e1]
      repeat (first | refine tr_seq_k fun _ _ => ?_ | (refine tr_region ?_; simp only [go_sem, reduceCtorEq, Nat.reduceEqDiff, Nat.reduceLT, Nat.reduceLeDiff, Nat.reduceAdd, Nat.reduceMul, Nat.reduceSub, Nat.reduceBEq, ↓reduceIte]) | refine k_of (by assumption) ?_ | (refine tr_exit ?_; try simp only [ex_seq_exit, ex_block_exit, Nat.reduceEqDiff, if_true, if_false, ex_seq, ex_block, reduceCtorEq, ↓reduceIte]) | (refine tr_ret ?_; try simp only [ex_seq_ret, ex_block_ret]))
      refine (hQ _ _ [colA clsC 0 (clausesF p)] ?_ (fun m => ret_col clsC 43 12 (clausesF p) _ m)).2 <;> simp only [go_sem, reduceCtorEq, Nat.reduceEqDiff, Nat.reduceLT, Nat.reduceLeDiff, Nat.reduceAdd, Nat.reduceMul, Nat.reduceSub, Nat.reduceBEq, ↓reduceIte, Try.f8]
end Go.Proofs.Ytinbfakpjnnagaa
namespace Go.Vs.Ab
open Go.RowKit
variable {P : Program} {X : Mem} {W0 w w' : World} {m : Mm}
theorem strCells_app (o s : ByteArray) : Lib.strCells (o ++ s) = Lib.strCells o ++ Lib.strCells s := by
  simp [Lib.strCells]
theorem size0 {s : ByteArray} (h : s.size = 0) : s = ⟨#[]⟩ := by
  cases s with
  | mk d =>
    congr 1
    exact Array.eq_empty_of_size_eq_zero h
theorem app_size (o s : ByteArray) : (o ++ s).size = o.size + s.size := by
  rw [← Lib.strCells_length, strCells_app, List.length_append, Lib.strCells_length, Lib.strCells_length]
theorem none_app {o s : ByteArray} (h : o.size = 0) : o ++ s = s := by
  rw [size0 h]
  apply ByteArray.ext
  simp
theorem MR.byt (M : MR X W0 m w) {j : Nat} {e : TypeId} {o : ByteArray} (hj : m.hp[j]? = some ⟨false, [.byt e o]⟩) :
    ∃ γ arr, X.loc j = some γ ∧ W0.heap.size ≤ γ ∧ w.heap[γ]? = some (.cells arr e (0, 0)) ∧ o.size ≤ arr.size ∧ arr.toList.take o.size = Lib.strCells o ∧ ∀ q, X.cell γ q = none := by
  obtain ⟨γ, h1, h2, h3, hB⟩ := M.locs j _ hj
  cases hB with
  | dead h => simp at h
  | ent h => simp at h
  | bld h => simp at h
  | byt h g1 g2 g3 g4 g5 =>
    simp only [List.cons.injEq, AV.byt.injEq, and_true] at h
    obtain ⟨rfl, rfl⟩ := h
    exact ⟨γ, _, h1, h2, g1, g2, g3, g5⟩
  | cells _ _ hr => exact (reps_no hr (fun x hx => by cases hx)).elim
/-! ### what that leaves of the memory -/
theorem lowB_setb {i j : Nat} {nb : Blk} (hn : lows i j nb.cs = true) : ∀ {l : List Blk} (k : Nat), lowB i j l = true → lowB i j (l.set k nb) = true
  | [], k, _ => by simp [lowB]
  | x :: r, 0, h => by
    simp only [lowB, Bool.and_eq_true] at h
    simp only [List.set_cons_zero, lowB, hn, h.2, Bool.and_self]
  | x :: r, k + 1, h => by
    simp only [lowB, Bool.and_eq_true] at h
    simp only [List.set_cons_succ, lowB, h.1, lowB_setb hn k h.2, Bool.and_self]
mutual
theorem low_up {i j i' j' : Nat} (hi : i ≤ i') (hj : j ≤ j') : ∀ {c : AV}, low i j c = true → low i' j' c = true
  | .own k _ _, h => by simp only [low, Nat.blt_eq] at *; omega
  | .ptr b _, h => by simp only [low, Nat.blt_eq] at *; omega
  | .tup vs, h => by simp only [low] at *; exact lows_up hi hj h
  | .fn _ a b, h => by simp only [low, Bool.and_eq_true] at *; exact ⟨lows_up hi hj h.1, lows_up hi hj h.2⟩
  | .c _, h => rfl
  | .agg _, h => rfl
  | .cptr _, h => rfl
  | .lsl b _ _ _, h => by simp only [low, Nat.blt_eq] at *; omega
  | .mapp b, h => by simp only [low, Nat.blt_eq] at *; omega
  | .ifc _ v, h => by simp only [low] at *; exact low_up hi hj h
  | .strc vs, h => by simp only [low] at *; exact lows_up hi hj h
  | .ent _, h => rfl
  | .bld _ _ c, h => by simp only [low] at *; exact low_up hi hj h
  | .byt _ _, h => rfl
  | .dead, h => rfl
theorem lows_up {i j i' j' : Nat} (hi : i ≤ i') (hj : j ≤ j') : ∀ {cs : List AV}, lows i j cs = true → lows i' j' cs = true
  | [], h => rfl
  | c :: r, h => by simp only [lows, Bool.and_eq_true] at *; exact ⟨low_up hi hj h.1, lows_up hi hj h.2⟩
end
theorem lowB_up {i j i' j' : Nat} (hi : i ≤ i') (hj : j ≤ j') : ∀ {bs : List Blk}, lowB i j bs = true → lowB i' j' bs = true
  | [], h => rfl
  | c :: r, h => by simp only [lowB, Bool.and_eq_true] at *; exact ⟨lows_up hi hj h.1, lowB_up hi hj h.2⟩
/-! ### a block that is a Builder, in the world -/
theorem MR.bld (M : MR X W0 m w) {b : Nat} {T : TypeId} {u : Bool} {c : AV} (hb : m.hp[b]? = some ⟨false, [.bld T u c]⟩) :
    ∃ β v, X.loc b = some β ∧ W0.heap.size ≤ β ∧ w.heap[β]? = some (.cells #[bptr u β, v] T (0, 0)) ∧ Rep X c v ∧ ∀ o, X.cell β o = none := by
  obtain ⟨β, h1, h2, h3, hB⟩ := M.locs b _ hb
  cases hB with
  | dead h => simp at h
  | ent h => simp at h
  | byt h => simp at h
  | bld h g1 g2 g3 g4 =>
    simp only [List.cons.injEq, AV.bld.injEq, and_true] at h
    obtain ⟨rfl, rfl, rfl⟩ := h
    exact ⟨β, _, h1, h2, g1, g2, g4⟩
  | cells _ _ hr => exact (reps_no hr (fun x hx => by cases hx)).elim
end Go.Vs.Ab
namespace Go.Proofs.Ytinbfakpjnnagaa
open Go.RowKit Go.Vs Go.Vs.Ab
set_option maxRecDepth 100000
set_option maxHeartbeats 4000000
section
variable {X : Mem} {W0 w : World} {m : Mm} {b : Nat} {u : Bool} {c : AV}
end
end Go.Proofs.Ytinbfakpjnnagaa
namespace Go.Proofs.Ytinbfakpjnnagaa
open Go.RowKit Go.Vs Go.Vs.Ab
set_option maxRecDepth 100000
set_option maxHeartbeats 4000000
/-! ### a page -/
structure KpP (m m' : Mm) : Prop where
  hw : m'.hw = m.hw
  len : m.hp.length ≤ m'.hp.length
  old : ∀ (i : Nat) (blk : Blk), plainB blk.cs = true → m.hp[i]? = some blk → m'.hp[i]? = some blk
theorem KpP.refl (m : Mm) : KpP m m := ⟨rfl, Nat.le_refl _, fun _ _ _ h => h⟩
theorem KpP.trans {m1 m2 m3 : Mm} (h : KpP m1 m2) (k : KpP m2 m3) : KpP m1 m3 := ⟨k.hw.trans h.hw, Nat.le_trans h.len k.len, fun i blk hp hi => k.old i blk hp (h.old i blk hp hi)⟩
end Go.Proofs.Ytinbfakpjnnagaa
namespace Go.Proofs.Ytinbfakpjnnagaa
open Go.RowKit Go.Vs Go.Vs.Ab
set_option maxRecDepth 100000
set_option maxHeartbeats 4000000
theorem build2T (x y : ByteArray) : aBuildSlice Try.prog 22 2 [(0, .c (.v (.string x))), (1, .c (.v (.string y)))] = some [.v (.string x), .v (.string y)] := by
  simp only [aBuildSlice, Try.underlying22, sz9, ze9]
  rfl
theorem build4T (x y z u : ByteArray) : aBuildSlice Try.prog 22 4 [(0, .c (.v (.string x))), (1, .c (.v (.string y))), (2, .c (.v (.string z))), (3, .c (.v (.string u)))] = some [.v (.string x), .v (.string y), .v (.string z), .v (.string u)] := by
  simp only [aBuildSlice, Try.underlying22, sz9, ze9]
  rfl
theorem build5T (x y z u v : ByteArray) : aBuildSlice Try.prog 22 5 [(0, .c (.v (.string x))), (1, .c (.v (.string y))), (2, .c (.v (.string z))), (3, .c (.v (.string u))), (4, .c (.v (.string v)))] = some [.v (.string x), .v (.string y), .v (.string z), .v (.string u), .v (.string v)] := by
  simp only [aBuildSlice, Try.underlying22, sz9, ze9]
  rfl
theorem two_max : (2 ≤ maxLen) = True := eq_true (by decide)
theorem five_max : (5 ≤ maxLen) = True := eq_true (by decide)
attribute [go_sem] one_max two_max four_max five_max build1T build2T build4T build5T
abbrev tIf : ByteArray := ⟨#[32, 105, 102, 32]⟩
def pbodyK (l : List Atm) : Nat → ByteArray
  | 0 => ⟨#[]⟩
  | k + 1 => pbodyK l k ++ match l[k]? with
    | some a => (if k = 0 then tIf else tComma) ++ ptext a
    | none => ⟨#[]⟩
def pbody (l : List Atm) : ByteArray := pbodyK l l.length
theorem pbodyK_next {l : List Atm} {k : Nat} (h : k < l.length) : pbodyK l (k + 1) = pbodyK l k ++ ((if k = 0 then tIf else tComma) ++ ptext l[k]) := by
  simp only [pbodyK, List.getElem?_eq_getElem h]
theorem ptext_size {a : Atm} (h : AtSz a) : (ptext a).size ≤ 10000000 := by
  obtain ⟨h1, h2, h3⟩ := h
  have hk := psaidK_size ⟨h1, h2, h3⟩ a.count
  have h4 := a.count_le
  have hm : a.count * 1000002 ≤ 4 * 1000002 := Nat.mul_le_mul_right _ h4
  have e1 : tSays.size = 6 := rfl
  have e2 : tShut.size = 1 := rfl
  have h5 : (psaid a).size ≤ 6000000 := by
    unfold psaid
    split
    · rw [app_size, e2]; omega
    · omega
  unfold ptext
  rw [app_size, app_size, e1]
  omega
theorem pbodyK_size {l : List Atm} (h : ∀ a ∈ l, AtSz a) : ∀ k, (pbodyK l k).size ≤ k * 10000010
  | 0 => by show (0 : Nat) ≤ _; omega
  | k + 1 => by
    have ih := pbodyK_size h k
    unfold pbodyK
    rw [app_size]
    split
    · rename_i a ha
      have := ptext_size (h a (List.mem_of_getElem? ha))
      rw [app_size]
      have e1 : tIf.size = 4 := rfl
      have e2 : tComma.size = 2 := rfl
      split
      · rw [e1]; omega
      · rw [e2]; omega
    · have e0 : (⟨#[]⟩ : ByteArray).size = 0 := rfl
      have ih2 : (pbodyK l k).size ≤ k * 10000010 := ih
      generalize (⟨#[]⟩ : ByteArray).size = z at *
      omega
end Go.Proofs.Ytinbfakpjnnagaa
namespace Go.Proofs.Ytinbfakpjnnagaa
open Go.RowKit Go.Vs Go.Vs.Ab
set_option maxRecDepth 100000
set_option maxHeartbeats 4000000
/-! ### rules, grants, clears, goals -/
/-! ### numbers -/
end Go.Proofs.Ytinbfakpjnnagaa
namespace Go.Proofs.Ytinbfakpjnnagaa
open Go.RowKit Go.Vs Go.Vs.Ab
set_option maxRecDepth 100000
set_option maxHeartbeats 4000000
theorem pbody_size {l : List Atm} (h : ∀ a ∈ l, AtSz a) (hl : l.length ≤ 400) : (pbody l).size ≤ 4000004000 := by
  have h1 := pbodyK_size h l.length
  have h2 : l.length * 10000010 ≤ 400 * 10000010 := Nat.mul_le_mul_right _ hl
  unfold pbody
  omega
end Go.Proofs.Ytinbfakpjnnagaa
namespace Go.Proofs.Ytinbfakpjnnagaa
open Go.RowKit Go.Vs Go.Vs.Ab
set_option maxRecDepth 100000
set_option maxHeartbeats 4000000
abbrev eAl : ByteArray := ⟨#[97, 108, 105, 99, 101]⟩
abbrev eBo : ByteArray := ⟨#[98, 111, 98]⟩
abbrev eCa : ByteArray := ⟨#[99, 97, 114, 111, 108]⟩
abbrev eP : ByteArray := ⟨#[112]⟩
abbrev eQ : ByteArray := ⟨#[113]⟩
abbrev eX : ByteArray := ⟨#[88]⟩
abbrev eZ : Tm := ⟨false, ⟨#[]⟩⟩
def at1 : Atm := ⟨eAl, eP, 1, ⟨true, eX⟩, eZ, eZ, eZ⟩
def at2 : Atm := ⟨eCa, eQ, 1, ⟨true, eX⟩, eZ, eZ, eZ⟩
theorem av_atm (a : Atm) : avOf (.agg a.cells) = some (atA a) := rfl
theorem pA_does (s p : ByteArray) (c : CV) (a : Atm) (hs : shuts [sA s, sA p, .c c] = some [sA s, sA p, .c c]) (h : answer (evFun Try.prog (lookH []) 100 16 [sA s, sA p, .c c] ⟨[], []⟩) = some (.agg a.cells)) : Does Try.prog 16 [sA s, sA p, .c c] (fun m => (atA a, m)) :=
  does_of_evA follows (callable_of Try.func16 (by kernel_rfl)) (av_atm a) hs h
theorem bld1A (a : Atm) : aBuildSlice Try.prog 41 1 [(0, .agg [.v (.string a.says), .v (.string a.pred), .v (.int .i64 a.n), .v (.bool a.a0.v), .v (.string a.a0.name), .v (.bool a.a1.v), .v (.string a.a1.name), .v (.bool a.a2.v), .v (.string a.a2.name), .v (.bool a.a3.v), .v (.string a.a3.name)])] = some ([a].flatMap atC) := by
  simp only [aBuildSlice, Try.underlying41, sz40, ze40]
  rfl
def gr1 : Grt := ⟨eBo, at1, true, [at2]⟩
theorem at1_sz : AtSz at1 := ⟨by decide, by decide, fun k => by match k with | 0 => decide | 1 => decide | 2 => decide | k + 3 => show at1.a3.name.size ≤ _; decide⟩
theorem at2_sz : AtSz at2 := ⟨by decide, by decide, fun k => by match k with | 0 => decide | 1 => decide | 2 => decide | k + 3 => show at2.a3.name.size ≤ _; decide⟩
end Go.Proofs.Ytinbfakpjnnagaa
namespace Go.Proofs.Ytinbfakpjnnagaa
open Go.RowKit Go.Vs Go.Vs.Ab
set_option maxRecDepth 100000
set_option maxHeartbeats 4000000
theorem light_parts {a : Atm} (h : lightA a = true) : a.says.size ≤ 300 ∧ a.pred.size ≤ 300 ∧ ∀ k, k < 4 → (a.arg k).name.size ≤ 300 := by
  unfold lightA lightK at h
  simp only [Bool.and_eq_true, decide_eq_true_eq, List.all_eq_true] at h
  refine ⟨h.1.1, h.1.2, fun k hk => ?_⟩
  have := h.2 (a.arg k) (by
    obtain rfl | rfl | rfl | rfl : k = 0 ∨ k = 1 ∨ k = 2 ∨ k = 3 := by omega
    all_goals simp [Atm.args, Atm.arg])
  simpa [tmL] using this
theorem lightA_sz {a : Atm} (h : lightA a = true) : AtSz a := by
  obtain ⟨h1, h2, h3⟩ := light_parts h
  refine ⟨by omega, by omega, fun k => ?_⟩
  by_cases hk : k < 4
  · have := h3 k hk; omega
  · obtain ⟨j, rfl⟩ : ∃ j, k = j + 4 := ⟨k - 4, by omega⟩
    have := h3 3 (by omega)
    show (a.arg 3).name.size ≤ 1000000
    omega
theorem lightAs_all {l : List Atm} {most : Int} (h : lightAs l most = true) : (∀ a ∈ l, AtSz a) ∧ (l.length : Int) ≤ most := by
  refine ⟨fun a ha => ?_, lightAs_len h⟩
  unfold lightAs at h
  simp only [Bool.and_eq_true, List.all_eq_true] at h
  exact lightA_sz (h.2 a ha)
end Go.Proofs.Ytinbfakpjnnagaa
namespace Go.Proofs.Ytinbfakpjnnagaa
open Go.RowKit Go.Vs Go.Vs.Ab
set_option maxRecDepth 100000
set_option maxHeartbeats 4000000
def okA (a : Atm) : Bool := decide (pcheck3 a = 0)
end Go.Proofs.Ytinbfakpjnnagaa
namespace Go.Proofs.Ytinbfakpjnnagaa
open Go.RowKit Go.Vs Go.Vs.Ab
set_option maxRecDepth 100000
set_option maxHeartbeats 4000000
def okRu (r : Rul) : Bool := okA r.head && r.body.all okA
end Go.Proofs.Ytinbfakpjnnagaa
namespace Go.Vs
open Go.Vs.Ab
theorem lts_app (a b : ByteArray) : lts (a ++ b) = lts a ++ lts b := by
  show (a ++ b).data.toList = _
  rw [ByteArray.data_append, Array.toList_append]
theorem lts_ext (t : ByteArray) (a b : Nat) : lts (t.extract a b) = ((lts t).drop a).take (b - a) := by
  show (t.extract a b).data.toList = _
  rw [ByteArray.data_extract, Array.toList_extract, List.extract_eq_take_drop]
theorem lts_inj {a b : ByteArray} (h : lts a = lts b) : a = b := by
  apply ByteArray.ext
  exact Array.ext' h
end Go.Vs
namespace Go.Proofs.Ytinbfakpjnnagaa
open Go.RowKit Go.Vs Go.Vs.Ab
set_option maxRecDepth 100000
abbrev dotB : ByteArray := ⟨#[46]⟩
/-! ### no line's end within -/
/-! ### how a line ends, and which ones stand where -/
end Go.Proofs.Ytinbfakpjnnagaa
namespace Go.Vs
open Go.Vs.Ab
structure Tk where
  kind : Int
  text : ByteArray
  at_ : Int
  deriving DecidableEq
def noTk : Tk := ⟨0, ⟨#[]⟩, 0⟩
def blankB (c : UInt8) : Bool := [32, 10, 9, 13].any fun x : UInt8 => decide ((x.toNat : Int) = (c.toNat : Int))
def signB (c : UInt8) : Bool := [40, 41, 44, 46, 58, 47, 63].any fun x : UInt8 => decide ((x.toNat : Int) = (c.toNat : Int))
def moreB (kind : Int) (c : UInt8) : Bool := lowerB c || digB c || underB c || (decide (kind = 2) && upperB c)
def skipC : Bool → List UInt8 → Nat
  | _, [] => 0
  | false, c :: r => if blankB c then 1 + skipC false r else if (c.toNat : Int) = 37 then 1 + skipC true r else 0
  | true, c :: r => if (c.toNat : Int) = 10 then 1 + skipC false r else 1 + skipC true r
theorem skipC_le : ∀ (b : Bool) (l : List UInt8), skipC b l ≤ l.length
  | true, [] => Nat.le_refl _
  | false, [] => Nat.le_refl _
  | false, c :: r => by
    have h1 := skipC_le false r
    have h2 := skipC_le true r
    unfold skipC
    simp only [List.length_cons]
    split
    · omega
    · split
      · omega
      · omega
  | true, c :: r => by
    have h1 := skipC_le false r
    have h2 := skipC_le true r
    unfold skipC
    simp only [List.length_cons]
    split
    · omega
    · omega
def skipAt (s : ByteArray) (i : Nat) : Nat := i + skipC false ((lts s).drop i)
theorem skipAt_le {s : ByteArray} {i : Nat} (h : i ≤ s.size) : skipAt s i ≤ s.size := by
  have := skipC_le false ((lts s).drop i)
  rw [List.length_drop, lts_len] at this
  unfold skipAt
  omega
theorem skipAt_ge (s : ByteArray) (i : Nat) : i ≤ skipAt s i := Nat.le_add_right _ _
theorem drop_cons {l : List UInt8} {i : Nat} (h : i < l.length) : l.drop i = l[i] :: l.drop (i + 1) := List.drop_eq_getElem_cons h
theorem skip_blank {s : ByteArray} {i : Nat} (h : i < (lts s).length) (hc : blankB (lts s)[i] = true) : skipAt s (i + 1) = skipAt s i := by
  unfold skipAt
  rw [drop_cons h, skipC, if_pos hc]
  omega
def skipR (s : ByteArray) (i : Nat) : Nat := i + skipC true ((lts s).drop i)
theorem skip_remark {s : ByteArray} {i : Nat} (h : i < (lts s).length) (hb : blankB (lts s)[i] = false) (hc : ((lts s)[i].toNat : Int) = 37) : skipR s i = skipAt s i := by
  unfold skipAt skipR
  rw [drop_cons h, skipC, if_neg (by rw [hb]; exact Bool.false_ne_true), if_pos hc, skipC, if_neg (by rw [hc]; decide)]
theorem skip_other {s : ByteArray} {i : Nat} (h : i < (lts s).length) (hb : blankB (lts s)[i] = false) (hc : ((lts s)[i].toNat : Int) ≠ 37) : skipAt s i = i := by
  unfold skipAt
  rw [drop_cons h, skipC, if_neg (by rw [hb]; exact Bool.false_ne_true), if_neg hc]
  rfl
theorem skip_end {s : ByteArray} {i : Nat} (h : ¬ i < (lts s).length) : skipAt s i = i := by
  unfold skipAt
  rw [List.drop_eq_nil_of_le (by omega)]
  rfl
theorem skipR_next {s : ByteArray} {i : Nat} (h : i < (lts s).length) (hc : ((lts s)[i].toNat : Int) ≠ 10) : skipR s (i + 1) = skipR s i := by
  unfold skipR
  rw [drop_cons h, skipC, if_neg hc]
  omega
theorem skipR_nl {s : ByteArray} {i : Nat} (h : i < (lts s).length) (hc : ((lts s)[i].toNat : Int) = 10) : skipAt s i = skipR s i := by
  unfold skipAt skipR
  have hb : blankB (lts s)[i] = true := by
    unfold blankB
    rw [hc]
    decide
  rw [drop_cons h, skipC, skipC, if_pos hb, if_pos hc]
theorem skipR_end {s : ByteArray} {i : Nat} (h : ¬ i < (lts s).length) : skipAt s i = skipR s i := by
  unfold skipAt skipR
  rw [List.drop_eq_nil_of_le (by omega)]
  rfl
/-! ### a token -/
def runL (kind : Int) (l : List UInt8) : Nat := (l.takeWhile (moreB kind)).length
theorem runL_le (kind : Int) : ∀ l : List UInt8, runL kind l ≤ l.length
  | [] => Nat.le_refl _
  | c :: r => by
    have ih := runL_le kind r
    unfold runL at *
    rw [List.takeWhile_cons]
    split
    · simp only [List.length_cons]; omega
    · simp
def runAt (kind : Int) (s : ByteArray) (i : Nat) : Nat := i + runL kind ((lts s).drop i)
theorem run_next {kind : Int} {s : ByteArray} {i : Nat} (h : i < (lts s).length) (hc : moreB kind (lts s)[i] = true) : runAt kind s (i + 1) = runAt kind s i := by
  unfold runAt runL
  rw [drop_cons h, List.takeWhile_cons, if_pos hc, List.length_cons]
  omega
theorem run_stop {kind : Int} {s : ByteArray} {i : Nat} (h : i < (lts s).length) (hc : moreB kind (lts s)[i] = false) : runAt kind s i = i := by
  unfold runAt runL
  rw [drop_cons h, List.takeWhile_cons, if_neg (by rw [hc]; exact Bool.false_ne_true)]
  rfl
theorem run_end {kind : Int} {s : ByteArray} {i : Nat} (h : ¬ i < (lts s).length) : runAt kind s i = i := by
  unfold runAt runL
  rw [List.drop_eq_nil_of_le (by omega)]
  rfl
theorem runAt_le {kind : Int} {s : ByteArray} {i : Nat} (h : i ≤ s.size) : runAt kind s i ≤ s.size := by
  have := runL_le kind ((lts s).drop i)
  rw [List.length_drop, lts_len] at this
  unfold runAt
  omega
theorem runAt_ge (kind : Int) (s : ByteArray) (i : Nat) : i ≤ runAt kind s i := Nat.le_add_right _ _
def kindOf (c : UInt8) : Int := if signB c then 3 else if upperB c then 2 else if lowerB c || digB c then 1 else 0
def tokAt (s : ByteArray) (i : Nat) : Tk × Int :=
  match (lts s)[i]? with
  | none => (noTk, 3)
  | some c =>
    if kindOf c = 3 then (⟨3, s.extract i (i + 1), i⟩, 0)
    else if kindOf c = 0 then (noTk, 3)
    else if 255 < runAt (kindOf c) s i - i then (noTk, 4)
    else (⟨kindOf c, s.extract i (runAt (kindOf c) s i), i⟩, 0)
theorem tokAt_of {s : ByteArray} {i : Nat} (h : i < (lts s).length) : tokAt s i =
    if kindOf (lts s)[i] = 3 then (⟨3, s.extract i (i + 1), i⟩, 0)
    else if kindOf (lts s)[i] = 0 then (noTk, 3)
    else if 255 < runAt (kindOf (lts s)[i]) s i - i then (noTk, 4)
    else (⟨kindOf (lts s)[i], s.extract i (runAt (kindOf (lts s)[i]) s i), i⟩, 0) := by
  unfold tokAt
  rw [List.getElem?_eq_getElem h]
theorem kind_more {c : UInt8} (h3 : kindOf c ≠ 3) (h0 : kindOf c ≠ 0) : moreB (kindOf c) c = true := by
  unfold kindOf at *
  by_cases hs : signB c = true
  · rw [if_pos hs] at h3
    exact absurd rfl h3
  · rw [if_neg hs] at h0 ⊢
    by_cases hu : upperB c = true
    · rw [if_pos hu]
      simp [moreB, hu]
    · rw [if_neg hu] at h0 ⊢
      by_cases hl : (lowerB c || digB c) = true
      · rw [if_pos hl]
        simp [moreB, hl]
      · rw [if_neg hl] at h0
        exact absurd rfl h0
theorem ext_size {s : ByteArray} {a b : Nat} (h : a ≤ b) (h2 : b ≤ s.size) : (s.extract a b).size = b - a := by
  rw [← lts_len, lts_ext, List.length_take, List.length_drop, lts_len]
  omega
theorem tokAt_size {s : ByteArray} {i : Nat} (h : i < s.size) (he : (tokAt s i).2 = 0) : 0 < (tokAt s i).1.text.size ∧ i + (tokAt s i).1.text.size ≤ s.size ∧ (tokAt s i).1.text.size ≤ 255 := by
  have hl : i < (lts s).length := by rw [lts_len]; exact h
  rw [tokAt_of hl] at he ⊢
  have hm := kind_more (c := (lts s)[i])
  have hn := run_next (kind := kindOf (lts s)[i]) hl
  generalize kindOf (lts s)[i] = k at *
  by_cases h3 : k = 3
  · rw [if_pos h3]
    dsimp only
    rw [ext_size (by omega) (by omega)]
    omega
  · rw [if_neg h3] at he ⊢
    by_cases h0 : k = 0
    · rw [if_pos h0] at he
      cases he
    · rw [if_neg h0] at he ⊢
      by_cases hr : 255 < runAt k s i - i
      · rw [if_pos hr] at he
        cases he
      · rw [if_neg hr]
        have h1 := hn (hm h3 h0)
        have h2 := runAt_ge k s (i + 1)
        have h4 := runAt_le (kind := k) (Nat.le_of_lt h)
        dsimp only
        rw [ext_size (by omega) h4]
        omega
/-! ### all tokens -/
def toksF (s : ByteArray) : Nat → Nat → List Tk → List Tk × Int × Int
  | 0, _, out => (out, 0, 0)
  | f + 1, i, out => if i < s.size then
      if (tokAt s i).2 ≠ 0 then (out, (i : Int), (tokAt s i).2)
      else toksF s f (skipAt s (i + (tokAt s i).1.text.size)) (out ++ [(tokAt s i).1])
    else (out, 0, 0)
def toks (s : ByteArray) : List Tk × Int × Int := if 65536 < s.size then ([], 65536, 4) else toksF s (s.size + 1) (skipAt s 0) []
def toksAll (s : ByteArray) : List Tk × Int × Int := if (toks s).2.2 ≠ 0 then ([], (toks s).2.1, (toks s).2.2) else ((toks s).1, 0, 0)
theorem toksF_len (s : ByteArray) : ∀ f i out, (toksF s f i out).1.length ≤ out.length + f
  | 0, i, out => Nat.le_refl _
  | f + 1, i, out => by
    unfold toksF
    split
    · split
      · simp
      · have := toksF_len s f (skipAt s (i + (tokAt s i).1.text.size)) (out ++ [(tokAt s i).1])
        rw [List.length_append, List.length_cons, List.length_nil] at this
        omega
    · simp
theorem toks_len (s : ByteArray) : (toks s).1.length ≤ 65537 := by
  unfold toks
  split
  · exact Nat.zero_le _
  · have := toksF_len s (s.size + 1) (skipAt s 0) []
    simp only [List.length_nil] at this
    omega
end Go.Vs
namespace Go.Proofs.Ytinbfakpjnnagaa
open Go.RowKit Go.Vs Go.Vs.Ab
set_option maxRecDepth 100000
set_option maxHeartbeats 4000000
def tkC (t : Tk) : List CV := [.v (.int .i64 t.kind), .v (.string t.text), .v (.int .i64 t.at_)]
attribute [go_sem] tkC
def anyB (s : ByteArray) (c : UInt8) : Bool := (lts s).any fun x => decide ((x.toNat : Int) = (c.toNat : Int))
theorem in_does (s : ByteArray) (c : UInt8) (hz : s.size ≤ 1000) : Does Try.prog 75 [sA s, uA c] (fun m => (bA (anyB s c), m)) := by
  have lsz := lts_len s
  refine does_of' Try.func75 rfl (by kernel_rfl) rfl Try.ntmps75 rfl rfl fun Q hQ => ?_
  repeat (first | refine tr_seq_k fun _ _ => ?_ | (refine tr_region ?_; simp only [go_sem, reduceCtorEq, Nat.reduceEqDiff, Nat.reduceLT, Nat.reduceLeDiff, Nat.reduceAdd, Nat.reduceMul, Nat.reduceSub, Nat.reduceBEq, ↓reduceIte]) | refine k_of (by assumption) ?_ | refine tr_block ?_)
  refine tr_loop_k (σ := Nat) (fun k => [(0, sA s), (1, uA c), (5, iA k)]) (fun _ => ⟨[], []⟩)
    (fun k => k ≤ (lts s).length ∧ ((lts s).take k).any (fun x => decide ((x.toNat : Int) = (c.toNat : Int))) = false) (fun k => (lts s).length - k) 0 ⟨by omega, rfl⟩ ⟨rfl, rfl, rfl, trivial⟩ rfl ?_
  rintro k ⟨hk, hp⟩ K hK
  by_cases hkl : k < (lts s).length
  · have d1 : decide ((k : Int) < (s.size : Nat)) = true := decide_eq_true (by omega)
    have ix := idx_str s hkl
    have ws := wrap_succ (show k ≤ 1000000000 by omega)
    have hh := any_hit (p := fun x : UInt8 => decide ((x.toNat : Int) = (c.toNat : Int))) hkl
    have hnx := any_next (p := fun x : UInt8 => decide ((x.toNat : Int) = (c.toNat : Int))) hkl hp
    generalize (lts s)[k] = x at *
    cases d2 : decide ((x.toNat : Int) = (c.toNat : Int)) with
    | true =>
      have hr : anyB s c = true := hh d2
      repeat (first | refine tr_seq_k fun _ _ => ?_ | (refine tr_region ?_; simp only [go_sem, reduceCtorEq, Nat.reduceEqDiff, Nat.reduceLT, Nat.reduceLeDiff, Nat.reduceAdd, Nat.reduceMul, Nat.reduceSub, Nat.reduceBEq, ↓reduceIte, d1]) | refine k_of (by assumption) ?_)
      refine tr_cond rfl (fun ht => ?_) (fun hf => ?_)
      · repeat (first | refine tr_seq_k fun _ _ => ?_ | (refine tr_region ?_; simp only [go_sem, reduceCtorEq, Nat.reduceEqDiff, Nat.reduceLT, Nat.reduceLeDiff, Nat.reduceAdd, Nat.reduceMul, Nat.reduceSub, Nat.reduceBEq, ↓reduceIte, ix, d2]) | refine k_of (by assumption) ?_ | refine tr_block ?_ | (refine tr_skip ?_; try simp only [ex_seq, ex_block]))
        refine tr_cond rfl (fun ht => ?_) (fun hf => ?_)
        · repeat (first | refine tr_seq_k fun _ _ => ?_ | (refine tr_region ?_; simp only [go_sem, reduceCtorEq, Nat.reduceEqDiff, Nat.reduceLT, Nat.reduceLeDiff, Nat.reduceAdd, Nat.reduceMul, Nat.reduceSub, Nat.reduceBEq, ↓reduceIte]) | refine k_of (by assumption) ?_ | (refine tr_ret ?_; try simp only [ex_seq_ret, ex_block_ret]))
          refine (hQ _ _ [bA true] ?_ (fun m => ?_)).2 <;> simp only [go_sem, reduceCtorEq, Nat.reduceEqDiff, Nat.reduceLT, Nat.reduceLeDiff, Nat.reduceAdd, Nat.reduceMul, Nat.reduceSub, Nat.reduceBEq, ↓reduceIte, Try.f75, hr]
        · cases hf
      · cases hf
    | false =>
      repeat (first | refine tr_seq_k fun _ _ => ?_ | (refine tr_region ?_; simp only [go_sem, reduceCtorEq, Nat.reduceEqDiff, Nat.reduceLT, Nat.reduceLeDiff, Nat.reduceAdd, Nat.reduceMul, Nat.reduceSub, Nat.reduceBEq, ↓reduceIte, d1]) | refine k_of (by assumption) ?_)
      refine tr_cond rfl (fun ht => ?_) (fun hf => ?_)
      · repeat (first | refine tr_seq_k fun _ _ => ?_ | (refine tr_region ?_; simp only [go_sem, reduceCtorEq, Nat.reduceEqDiff, Nat.reduceLT, Nat.reduceLeDiff, Nat.reduceAdd, Nat.reduceMul, Nat.reduceSub, Nat.reduceBEq, ↓reduceIte, ix, d2]) | refine k_of (by assumption) ?_ | refine tr_block ?_ | (refine tr_skip ?_; try simp only [ex_seq, ex_block]))
        refine tr_cond rfl (fun ht => ?_) (fun hf => ?_)
        · cases ht
        · repeat (first | (refine tr_region ?_; simp only [go_sem, reduceCtorEq, Nat.reduceEqDiff, Nat.reduceLT, Nat.reduceLeDiff, Nat.reduceAdd, Nat.reduceMul, Nat.reduceSub, Nat.reduceBEq, ↓reduceIte, ws]) | refine k_of (by assumption) ?_ | (refine tr_skip ?_; try simp only [ex_seq, ex_block]))
          exact hK (k + 1) _ _ ⟨hkl, hnx d2⟩ ⟨⟨rfl, rfl, rfl, trivial⟩, Keep.refl _, rfl, rfl, Nat.le_refl _, Nat.le_refl _⟩ (by omega)
      · cases hf
  · have d1 : decide ((k : Int) < (s.size : Nat)) = false := decide_eq_false (by omega)
    obtain rfl : k = (lts s).length := by omega
    rw [List.take_length] at hp
    have hr : anyB s c = false := hp
    repeat (first | refine tr_seq_k fun _ _ => ?_ | (refine tr_region ?_; simp only [go_sem, reduceCtorEq, Nat.reduceEqDiff, Nat.reduceLT, Nat.reduceLeDiff, Nat.reduceAdd, Nat.reduceMul, Nat.reduceSub, Nat.reduceBEq, ↓reduceIte, d1]) | refine k_of (by assumption) ?_)
    refine tr_cond rfl (fun ht => ?_) (fun hf => ?_)
    · cases ht
    · repeat (first | refine tr_seq_k fun _ _ => ?_ | (refine tr_region ?_; simp only [go_sem, reduceCtorEq, Nat.reduceEqDiff, Nat.reduceLT, Nat.reduceLeDiff, Nat.reduceAdd, Nat.reduceMul, Nat.reduceSub, Nat.reduceBEq, ↓reduceIte]) | refine k_of (by assumption) ?_ | (refine tr_exit ?_; try simp only [ex_seq_exit, ex_block_exit, Nat.reduceEqDiff, if_true, if_false, ex_seq, ex_block, reduceCtorEq, ↓reduceIte]) | (refine tr_ret ?_; try simp only [ex_seq_ret, ex_block_ret]))
      refine (hQ _ _ [bA false] ?_ (fun m => ?_)).2 <;> simp only [go_sem, reduceCtorEq, Nat.reduceEqDiff, Nat.reduceLT, Nat.reduceLeDiff, Nat.reduceAdd, Nat.reduceMul, Nat.reduceSub, Nat.reduceBEq, ↓reduceIte, Try.f75, hr]
abbrev tBlank : ByteArray := ⟨#[32, 10, 9, 13]⟩
abbrev tSigns : ByteArray := ⟨#[40, 41, 44, 46, 58, 47, 63]⟩
theorem blank_does (c : UInt8) : Does Try.prog 75 [sA tBlank, uA c] (fun m => (bA (blankB c), m)) := in_does tBlank c (Nat.le_of_ble_eq_true rfl)
theorem sign_does (c : UInt8) : Does Try.prog 75 [sA tSigns, uA c] (fun m => (bA (signB c), m)) := in_does tSigns c (Nat.le_of_ble_eq_true rfl)
theorem more_does (kind : Int) (c : UInt8) : Does Try.prog 76 [iA kind, uA c] (fun m => (bA (moreB kind c), m)) := by
  have c1 := small_does c
  have c2 := digit_does c
  have c3 := great_does c
  have cu := under_int c
  unfold moreB
  cases h1 : lowerB c with
  | true =>
    rw [h1] at c1
    refine does_of' Try.func76 rfl (by kernel_rfl) rfl Try.ntmps76 rfl rfl fun Q hQ => ?_
    repeat (first | refine tr_seq_k fun _ _ => ?_ | (refine tr_region ?_; simp only [go_sem, reduceCtorEq, Nat.reduceEqDiff, Nat.reduceLT, Nat.reduceLeDiff, Nat.reduceAdd, Nat.reduceMul, Nat.reduceSub, Nat.reduceBEq, ↓reduceIte]) | (refine call_of (c1) ?_ ?_; (first | rfl | simp only [go_sem, reduceCtorEq, Nat.reduceEqDiff, Nat.reduceLT, Nat.reduceLeDiff, Nat.reduceAdd, Nat.reduceMul, Nat.reduceSub, Nat.reduceBEq, ↓reduceIte, shut_col]); simp only [go_sem, reduceCtorEq, Nat.reduceEqDiff, Nat.reduceLT, Nat.reduceLeDiff, Nat.reduceAdd, Nat.reduceMul, Nat.reduceSub, Nat.reduceBEq, ↓reduceIte]) | refine k_of (by assumption) ?_ | (refine tr_ret ?_; try simp only [ex_seq_ret, ex_block_ret]))
    refine (hQ _ _ [bA true] ?_ (fun m => rfl)).2 <;> simp only [go_sem, reduceCtorEq, Nat.reduceEqDiff, Nat.reduceLT, Nat.reduceLeDiff, Nat.reduceAdd, Nat.reduceMul, Nat.reduceSub, Nat.reduceBEq, ↓reduceIte, Try.f76]
  | false =>
    rw [h1] at c1
    cases h2 : digB c with
    | true =>
      rw [h2] at c2
      refine does_of' Try.func76 rfl (by kernel_rfl) rfl Try.ntmps76 rfl rfl fun Q hQ => ?_
      repeat (first | refine tr_seq_k fun _ _ => ?_ | (refine tr_region ?_; simp only [go_sem, reduceCtorEq, Nat.reduceEqDiff, Nat.reduceLT, Nat.reduceLeDiff, Nat.reduceAdd, Nat.reduceMul, Nat.reduceSub, Nat.reduceBEq, ↓reduceIte]) | (refine call_of (c1) ?_ ?_; (first | rfl | simp only [go_sem, reduceCtorEq, Nat.reduceEqDiff, Nat.reduceLT, Nat.reduceLeDiff, Nat.reduceAdd, Nat.reduceMul, Nat.reduceSub, Nat.reduceBEq, ↓reduceIte, shut_col]); simp only [go_sem, reduceCtorEq, Nat.reduceEqDiff, Nat.reduceLT, Nat.reduceLeDiff, Nat.reduceAdd, Nat.reduceMul, Nat.reduceSub, Nat.reduceBEq, ↓reduceIte]) | (refine call_of (c2) ?_ ?_; (first | rfl | simp only [go_sem, reduceCtorEq, Nat.reduceEqDiff, Nat.reduceLT, Nat.reduceLeDiff, Nat.reduceAdd, Nat.reduceMul, Nat.reduceSub, Nat.reduceBEq, ↓reduceIte, shut_col]); simp only [go_sem, reduceCtorEq, Nat.reduceEqDiff, Nat.reduceLT, Nat.reduceLeDiff, Nat.reduceAdd, Nat.reduceMul, Nat.reduceSub, Nat.reduceBEq, ↓reduceIte]) | refine k_of (by assumption) ?_ | (refine tr_ret ?_; try simp only [ex_seq_ret, ex_block_ret]))
      refine (hQ _ _ [bA true] ?_ (fun m => rfl)).2 <;> simp only [go_sem, reduceCtorEq, Nat.reduceEqDiff, Nat.reduceLT, Nat.reduceLeDiff, Nat.reduceAdd, Nat.reduceMul, Nat.reduceSub, Nat.reduceBEq, ↓reduceIte, Try.f76]
    | false =>
      rw [h2] at c2
      cases h3 : underB c with
      | true =>
        rw [h3] at cu
        refine does_of' Try.func76 rfl (by kernel_rfl) rfl Try.ntmps76 rfl rfl fun Q hQ => ?_
        repeat (first | refine tr_seq_k fun _ _ => ?_ | (refine tr_region ?_; simp only [go_sem, reduceCtorEq, Nat.reduceEqDiff, Nat.reduceLT, Nat.reduceLeDiff, Nat.reduceAdd, Nat.reduceMul, Nat.reduceSub, Nat.reduceBEq, ↓reduceIte, ← cu]) | (refine call_of (c1) ?_ ?_; (first | rfl | simp only [go_sem, reduceCtorEq, Nat.reduceEqDiff, Nat.reduceLT, Nat.reduceLeDiff, Nat.reduceAdd, Nat.reduceMul, Nat.reduceSub, Nat.reduceBEq, ↓reduceIte, ← cu, shut_col]); simp only [go_sem, reduceCtorEq, Nat.reduceEqDiff, Nat.reduceLT, Nat.reduceLeDiff, Nat.reduceAdd, Nat.reduceMul, Nat.reduceSub, Nat.reduceBEq, ↓reduceIte, ← cu]) | (refine call_of (c2) ?_ ?_; (first | rfl | simp only [go_sem, reduceCtorEq, Nat.reduceEqDiff, Nat.reduceLT, Nat.reduceLeDiff, Nat.reduceAdd, Nat.reduceMul, Nat.reduceSub, Nat.reduceBEq, ↓reduceIte, ← cu, shut_col]); simp only [go_sem, reduceCtorEq, Nat.reduceEqDiff, Nat.reduceLT, Nat.reduceLeDiff, Nat.reduceAdd, Nat.reduceMul, Nat.reduceSub, Nat.reduceBEq, ↓reduceIte, ← cu]) | refine k_of (by assumption) ?_ | (refine tr_ret ?_; try simp only [ex_seq_ret, ex_block_ret]))
        refine (hQ _ _ [bA true] ?_ (fun m => rfl)).2 <;> simp only [go_sem, reduceCtorEq, Nat.reduceEqDiff, Nat.reduceLT, Nat.reduceLeDiff, Nat.reduceAdd, Nat.reduceMul, Nat.reduceSub, Nat.reduceBEq, ↓reduceIte, Try.f76]
      | false =>
        rw [h3] at cu
        cases h4 : decide (kind = 2) with
        | false =>
          refine does_of' Try.func76 rfl (by kernel_rfl) rfl Try.ntmps76 rfl rfl fun Q hQ => ?_
          repeat (first | refine tr_seq_k fun _ _ => ?_ | (refine tr_region ?_; simp only [go_sem, reduceCtorEq, Nat.reduceEqDiff, Nat.reduceLT, Nat.reduceLeDiff, Nat.reduceAdd, Nat.reduceMul, Nat.reduceSub, Nat.reduceBEq, ↓reduceIte, ← cu, h4]) | (refine call_of (c1) ?_ ?_; (first | rfl | simp only [go_sem, reduceCtorEq, Nat.reduceEqDiff, Nat.reduceLT, Nat.reduceLeDiff, Nat.reduceAdd, Nat.reduceMul, Nat.reduceSub, Nat.reduceBEq, ↓reduceIte, ← cu, h4, shut_col]); simp only [go_sem, reduceCtorEq, Nat.reduceEqDiff, Nat.reduceLT, Nat.reduceLeDiff, Nat.reduceAdd, Nat.reduceMul, Nat.reduceSub, Nat.reduceBEq, ↓reduceIte, ← cu, h4]) | (refine call_of (c2) ?_ ?_; (first | rfl | simp only [go_sem, reduceCtorEq, Nat.reduceEqDiff, Nat.reduceLT, Nat.reduceLeDiff, Nat.reduceAdd, Nat.reduceMul, Nat.reduceSub, Nat.reduceBEq, ↓reduceIte, ← cu, h4, shut_col]); simp only [go_sem, reduceCtorEq, Nat.reduceEqDiff, Nat.reduceLT, Nat.reduceLeDiff, Nat.reduceAdd, Nat.reduceMul, Nat.reduceSub, Nat.reduceBEq, ↓reduceIte, ← cu, h4]) | refine k_of (by assumption) ?_ | (refine tr_ret ?_; try simp only [ex_seq_ret, ex_block_ret]))
          refine (hQ _ _ [bA false] ?_ (fun m => rfl)).2 <;> simp only [go_sem, reduceCtorEq, Nat.reduceEqDiff, Nat.reduceLT, Nat.reduceLeDiff, Nat.reduceAdd, Nat.reduceMul, Nat.reduceSub, Nat.reduceBEq, ↓reduceIte, Try.f76]
        | true =>
          cases h5 : upperB c
          all_goals
            rw [h5] at c3
            refine does_of' Try.func76 rfl (by kernel_rfl) rfl Try.ntmps76 rfl rfl fun Q hQ => ?_
            repeat (first | refine tr_seq_k fun _ _ => ?_ | (refine tr_region ?_; simp only [go_sem, reduceCtorEq, Nat.reduceEqDiff, Nat.reduceLT, Nat.reduceLeDiff, Nat.reduceAdd, Nat.reduceMul, Nat.reduceSub, Nat.reduceBEq, ↓reduceIte, ← cu, h4]) | (refine call_of (c1) ?_ ?_; (first | rfl | simp only [go_sem, reduceCtorEq, Nat.reduceEqDiff, Nat.reduceLT, Nat.reduceLeDiff, Nat.reduceAdd, Nat.reduceMul, Nat.reduceSub, Nat.reduceBEq, ↓reduceIte, ← cu, h4, shut_col]); simp only [go_sem, reduceCtorEq, Nat.reduceEqDiff, Nat.reduceLT, Nat.reduceLeDiff, Nat.reduceAdd, Nat.reduceMul, Nat.reduceSub, Nat.reduceBEq, ↓reduceIte, ← cu, h4]) | (refine call_of (c2) ?_ ?_; (first | rfl | simp only [go_sem, reduceCtorEq, Nat.reduceEqDiff, Nat.reduceLT, Nat.reduceLeDiff, Nat.reduceAdd, Nat.reduceMul, Nat.reduceSub, Nat.reduceBEq, ↓reduceIte, ← cu, h4, shut_col]); simp only [go_sem, reduceCtorEq, Nat.reduceEqDiff, Nat.reduceLT, Nat.reduceLeDiff, Nat.reduceAdd, Nat.reduceMul, Nat.reduceSub, Nat.reduceBEq, ↓reduceIte, ← cu, h4]) | (refine call_of (c3) ?_ ?_; (first | rfl | simp only [go_sem, reduceCtorEq, Nat.reduceEqDiff, Nat.reduceLT, Nat.reduceLeDiff, Nat.reduceAdd, Nat.reduceMul, Nat.reduceSub, Nat.reduceBEq, ↓reduceIte, ← cu, h4, shut_col]); simp only [go_sem, reduceCtorEq, Nat.reduceEqDiff, Nat.reduceLT, Nat.reduceLeDiff, Nat.reduceAdd, Nat.reduceMul, Nat.reduceSub, Nat.reduceBEq, ↓reduceIte, ← cu, h4]) | refine k_of (by assumption) ?_ | (refine tr_ret ?_; try simp only [ex_seq_ret, ex_block_ret]))
            refine (hQ _ _ [bA _] ?_ (fun m => rfl)).2 <;> simp only [go_sem, reduceCtorEq, Nat.reduceEqDiff, Nat.reduceLT, Nat.reduceLeDiff, Nat.reduceAdd, Nat.reduceMul, Nat.reduceSub, Nat.reduceBEq, ↓reduceIte, Try.f76]
theorem skip_does (s : ByteArray) (i : Nat) (hi : i ≤ s.size) (hz : s.size ≤ 1000000) : Does Try.prog 64 [sA s, iA i] (fun m => (iA (skipAt s i), m)) := by
  have lsz := lts_len s
  obtain ⟨T, hT⟩ : ∃ T, T = skipAt s i := ⟨_, rfl⟩
  rw [← hT]
  refine does_of' Try.func64 rfl (by kernel_rfl) rfl Try.ntmps64 rfl rfl fun Q hQ => ?_
  repeat (first | refine tr_seq_k fun _ _ => ?_ | (refine tr_region ?_; simp only [go_sem, reduceCtorEq, Nat.reduceEqDiff, Nat.reduceLT, Nat.reduceLeDiff, Nat.reduceAdd, Nat.reduceMul, Nat.reduceSub, Nat.reduceBEq, ↓reduceIte]) | refine k_of (by assumption) ?_ | refine tr_block ?_)
  refine tr_loop_k (σ := Nat) (fun j => [(0, sA s), (1, iA j)]) (fun _ => ⟨[], []⟩) (fun j => j ≤ s.size ∧ skipAt s j = T) (fun j => s.size - j) i ⟨hi, hT.symm⟩ ⟨rfl, rfl, trivial⟩ rfl ?_
  rintro j ⟨hj, hjT⟩ K hK
  by_cases hjl : j < (lts s).length
  · have d1 : decide ((j : Int) < (s.size : Nat)) = true := decide_eq_true (by omega)
    have ix := idx_str s hjl
    have ws := wrap_succ (show j ≤ 1000000000 by omega)
    have hb := skip_blank hjl
    have hr := skip_remark hjl
    have ho := skip_other hjl
    have hne : ∀ j2 (h : j2 < (lts s).length), ((lts s)[j2].toNat : Int) = 10 → ((lts s)[j].toNat : Int) = 37 → j2 ≠ j := fun j2 h h1 h2 e => by
      subst e
      rw [h1] at h2
      cases h2
    generalize (lts s)[j] = c at *
    have cI := blank_does c
    cases h1 : blankB c with
    | true =>
      rw [h1] at cI
      have hb := hb h1
      repeat (first | refine tr_seq_k fun _ _ => ?_ | (refine tr_region ?_; simp only [go_sem, reduceCtorEq, Nat.reduceEqDiff, Nat.reduceLT, Nat.reduceLeDiff, Nat.reduceAdd, Nat.reduceMul, Nat.reduceSub, Nat.reduceBEq, ↓reduceIte, d1]) | refine k_of (by assumption) ?_)
      refine tr_cond rfl (fun ht => ?_) (fun hf => ?_)
      · repeat (first | refine tr_seq_k fun _ _ => ?_ | (refine tr_region ?_; simp only [go_sem, reduceCtorEq, Nat.reduceEqDiff, Nat.reduceLT, Nat.reduceLeDiff, Nat.reduceAdd, Nat.reduceMul, Nat.reduceSub, Nat.reduceBEq, ↓reduceIte, ix]) | (refine call_of (cI) ?_ ?_; (first | rfl | simp only [go_sem, reduceCtorEq, Nat.reduceEqDiff, Nat.reduceLT, Nat.reduceLeDiff, Nat.reduceAdd, Nat.reduceMul, Nat.reduceSub, Nat.reduceBEq, ↓reduceIte, ix, shut_col]); simp only [go_sem, reduceCtorEq, Nat.reduceEqDiff, Nat.reduceLT, Nat.reduceLeDiff, Nat.reduceAdd, Nat.reduceMul, Nat.reduceSub, Nat.reduceBEq, ↓reduceIte, ix]) | refine k_of (by assumption) ?_ | refine tr_block ?_ | (refine tr_skip ?_; try simp only [ex_seq, ex_block]))
        refine tr_cond rfl (fun ht => ?_) (fun hf => ?_)
        · repeat ((refine tr_region ?_; simp only [go_sem, reduceCtorEq, Nat.reduceEqDiff, Nat.reduceLT, Nat.reduceLeDiff, Nat.reduceAdd, Nat.reduceMul, Nat.reduceSub, Nat.reduceBEq, ↓reduceIte, ws]))
          exact hK (j + 1) _ _ ⟨by omega, hb.trans hjT⟩ ⟨⟨rfl, rfl, trivial⟩, Keep.refl _, rfl, rfl, Nat.le_refl _, Nat.le_refl _⟩ (by omega)
        · cases hf
      · cases hf
    | false =>
      rw [h1] at cI
      cases d2 : decide ((c.toNat : Int) = 37) with
      | true =>
        have hr := hr h1 (of_decide_eq_true d2)
        have hne := fun j2 h h1 => hne j2 h h1 (of_decide_eq_true d2)
        repeat (first | refine tr_seq_k fun _ _ => ?_ | (refine tr_region ?_; simp only [go_sem, reduceCtorEq, Nat.reduceEqDiff, Nat.reduceLT, Nat.reduceLeDiff, Nat.reduceAdd, Nat.reduceMul, Nat.reduceSub, Nat.reduceBEq, ↓reduceIte, d1]) | refine k_of (by assumption) ?_)
        refine tr_cond rfl (fun ht => ?_) (fun hf => ?_)
        · repeat (first | refine tr_seq_k fun _ _ => ?_ | (refine tr_region ?_; simp only [go_sem, reduceCtorEq, Nat.reduceEqDiff, Nat.reduceLT, Nat.reduceLeDiff, Nat.reduceAdd, Nat.reduceMul, Nat.reduceSub, Nat.reduceBEq, ↓reduceIte, ix]) | (refine call_of (cI) ?_ ?_; (first | rfl | simp only [go_sem, reduceCtorEq, Nat.reduceEqDiff, Nat.reduceLT, Nat.reduceLeDiff, Nat.reduceAdd, Nat.reduceMul, Nat.reduceSub, Nat.reduceBEq, ↓reduceIte, ix, shut_col]); simp only [go_sem, reduceCtorEq, Nat.reduceEqDiff, Nat.reduceLT, Nat.reduceLeDiff, Nat.reduceAdd, Nat.reduceMul, Nat.reduceSub, Nat.reduceBEq, ↓reduceIte, ix]) | refine k_of (by assumption) ?_ | refine tr_block ?_ | (refine tr_skip ?_; try simp only [ex_seq, ex_block]))
          refine tr_cond rfl (fun ht => ?_) (fun hf => ?_)
          · cases ht
          · repeat (first | refine tr_seq_k fun _ _ => ?_ | (refine tr_region ?_; simp only [go_sem, reduceCtorEq, Nat.reduceEqDiff, Nat.reduceLT, Nat.reduceLeDiff, Nat.reduceAdd, Nat.reduceMul, Nat.reduceSub, Nat.reduceBEq, ↓reduceIte, ix, d2]) | refine k_of (by assumption) ?_)
            refine tr_cond rfl (fun ht => ?_) (fun hf => ?_)
            · repeat (refine tr_block ?_)
              refine tr_loop_k (σ := Nat) (fun j2 => [(0, sA s), (1, iA j2)]) (fun _ => ⟨[], []⟩) (fun j2 => j2 ≤ s.size ∧ skipR s j2 = T ∧ j ≤ j2) (fun j2 => s.size - j2) j ⟨hj, hr.trans hjT, Nat.le_refl _⟩ ⟨rfl, rfl, trivial⟩ rfl ?_
              rintro j2 ⟨hj2, hjT2, hjj⟩ K2 hK2
              by_cases hjl2 : j2 < (lts s).length
              · have d3 : decide ((j2 : Int) < (s.size : Nat)) = true := decide_eq_true (by omega)
                have ix2 := idx_str s hjl2
                have ws2 := wrap_succ (show j2 ≤ 1000000000 by omega)
                have hn := skipR_next hjl2
                have hl := skipR_nl hjl2
                have hne := hne j2 hjl2
                generalize (lts s)[j2] = c2 at *
                cases d4 : decide ((c2.toNat : Int) = 10) with
                | true =>
                  have hl := hl (of_decide_eq_true d4)
                  have hne := hne (of_decide_eq_true d4)
                  repeat (first | refine tr_seq_k fun _ _ => ?_ | (refine tr_region ?_; simp only [go_sem, reduceCtorEq, Nat.reduceEqDiff, Nat.reduceLT, Nat.reduceLeDiff, Nat.reduceAdd, Nat.reduceMul, Nat.reduceSub, Nat.reduceBEq, ↓reduceIte, d3, ix2, d4]) | refine k_of (by assumption) ?_)
                  refine tr_cond rfl (fun ht => ?_) (fun hf => ?_)
                  · cases ht
                  · repeat ((refine tr_exit ?_; try simp only [ex_seq_exit, ex_block_exit, Nat.reduceEqDiff, if_true, if_false, ex_seq, ex_block, reduceCtorEq, ↓reduceIte]))
                    exact hK j2 _ _ ⟨hj2, hl.trans hjT2⟩ ⟨⟨rfl, rfl, trivial⟩, Keep.refl _, rfl, rfl, Nat.le_refl _, Nat.le_refl _⟩ (by omega)
                | false =>
                  have hn := hn (of_decide_eq_false d4)
                  repeat (first | refine tr_seq_k fun _ _ => ?_ | (refine tr_region ?_; simp only [go_sem, reduceCtorEq, Nat.reduceEqDiff, Nat.reduceLT, Nat.reduceLeDiff, Nat.reduceAdd, Nat.reduceMul, Nat.reduceSub, Nat.reduceBEq, ↓reduceIte, d3, ix2, d4]) | refine k_of (by assumption) ?_)
                  refine tr_cond rfl (fun ht => ?_) (fun hf => ?_)
                  · repeat (first | (refine tr_region ?_; simp only [go_sem, reduceCtorEq, Nat.reduceEqDiff, Nat.reduceLT, Nat.reduceLeDiff, Nat.reduceAdd, Nat.reduceMul, Nat.reduceSub, Nat.reduceBEq, ↓reduceIte, ws2]) | refine k_of (by assumption) ?_ | refine tr_block ?_ | (refine tr_skip ?_; try simp only [ex_seq, ex_block]))
                    exact hK2 (j2 + 1) _ _ ⟨by omega, hn.trans hjT2, by omega⟩ ⟨⟨rfl, rfl, trivial⟩, Keep.refl _, rfl, rfl, Nat.le_refl _, Nat.le_refl _⟩ (by omega)
                  · cases hf
              · have d3 : decide ((j2 : Int) < (s.size : Nat)) = false := decide_eq_false (by omega)
                have hl := skipR_end hjl2
                repeat (first | refine tr_seq_k fun _ _ => ?_ | (refine tr_region ?_; simp only [go_sem, reduceCtorEq, Nat.reduceEqDiff, Nat.reduceLT, Nat.reduceLeDiff, Nat.reduceAdd, Nat.reduceMul, Nat.reduceSub, Nat.reduceBEq, ↓reduceIte, d3]) | refine k_of (by assumption) ?_)
                refine tr_cond rfl (fun ht => ?_) (fun hf => ?_)
                · cases ht
                · repeat ((refine tr_exit ?_; try simp only [ex_seq_exit, ex_block_exit, Nat.reduceEqDiff, if_true, if_false, ex_seq, ex_block, reduceCtorEq, ↓reduceIte]))
                  exact hK j2 _ _ ⟨hj2, hl.trans hjT2⟩ ⟨⟨rfl, rfl, trivial⟩, Keep.refl _, rfl, rfl, Nat.le_refl _, Nat.le_refl _⟩ (by omega)
            · cases hf
        · cases hf
      | false =>
        have ho := ho h1 (of_decide_eq_false d2)
        have hv : T = j := hjT.symm.trans ho
        repeat (first | refine tr_seq_k fun _ _ => ?_ | (refine tr_region ?_; simp only [go_sem, reduceCtorEq, Nat.reduceEqDiff, Nat.reduceLT, Nat.reduceLeDiff, Nat.reduceAdd, Nat.reduceMul, Nat.reduceSub, Nat.reduceBEq, ↓reduceIte, d1]) | refine k_of (by assumption) ?_)
        refine tr_cond rfl (fun ht => ?_) (fun hf => ?_)
        · repeat (first | refine tr_seq_k fun _ _ => ?_ | (refine tr_region ?_; simp only [go_sem, reduceCtorEq, Nat.reduceEqDiff, Nat.reduceLT, Nat.reduceLeDiff, Nat.reduceAdd, Nat.reduceMul, Nat.reduceSub, Nat.reduceBEq, ↓reduceIte, ix]) | (refine call_of (cI) ?_ ?_; (first | rfl | simp only [go_sem, reduceCtorEq, Nat.reduceEqDiff, Nat.reduceLT, Nat.reduceLeDiff, Nat.reduceAdd, Nat.reduceMul, Nat.reduceSub, Nat.reduceBEq, ↓reduceIte, ix, shut_col]); simp only [go_sem, reduceCtorEq, Nat.reduceEqDiff, Nat.reduceLT, Nat.reduceLeDiff, Nat.reduceAdd, Nat.reduceMul, Nat.reduceSub, Nat.reduceBEq, ↓reduceIte, ix]) | refine k_of (by assumption) ?_ | refine tr_block ?_ | (refine tr_skip ?_; try simp only [ex_seq, ex_block]))
          refine tr_cond rfl (fun ht => ?_) (fun hf => ?_)
          · cases ht
          · repeat (first | refine tr_seq_k fun _ _ => ?_ | (refine tr_region ?_; simp only [go_sem, reduceCtorEq, Nat.reduceEqDiff, Nat.reduceLT, Nat.reduceLeDiff, Nat.reduceAdd, Nat.reduceMul, Nat.reduceSub, Nat.reduceBEq, ↓reduceIte, ix, d2]) | refine k_of (by assumption) ?_)
            refine tr_cond rfl (fun ht => ?_) (fun hf => ?_)
            · cases ht
            · repeat (first | refine tr_seq_k fun _ _ => ?_ | (refine tr_region ?_; simp only [go_sem, reduceCtorEq, Nat.reduceEqDiff, Nat.reduceLT, Nat.reduceLeDiff, Nat.reduceAdd, Nat.reduceMul, Nat.reduceSub, Nat.reduceBEq, ↓reduceIte]) | refine k_of (by assumption) ?_ | (refine tr_ret ?_; try simp only [ex_seq_ret, ex_block_ret]))
              refine (hQ _ _ [iA j] ?_ (fun m => by rw [hv]; rfl)).2 <;> simp only [go_sem, reduceCtorEq, Nat.reduceEqDiff, Nat.reduceLT, Nat.reduceLeDiff, Nat.reduceAdd, Nat.reduceMul, Nat.reduceSub, Nat.reduceBEq, ↓reduceIte, Try.f64]
        · cases hf
  · have d1 : decide ((j : Int) < (s.size : Nat)) = false := decide_eq_false (by omega)
    have he := skip_end hjl
    have hv : T = j := hjT.symm.trans he
    repeat (first | refine tr_seq_k fun _ _ => ?_ | (refine tr_region ?_; simp only [go_sem, reduceCtorEq, Nat.reduceEqDiff, Nat.reduceLT, Nat.reduceLeDiff, Nat.reduceAdd, Nat.reduceMul, Nat.reduceSub, Nat.reduceBEq, ↓reduceIte, d1]) | refine k_of (by assumption) ?_)
    refine tr_cond rfl (fun ht => ?_) (fun hf => ?_)
    · cases ht
    · repeat (first | refine tr_seq_k fun _ _ => ?_ | (refine tr_region ?_; simp only [go_sem, reduceCtorEq, Nat.reduceEqDiff, Nat.reduceLT, Nat.reduceLeDiff, Nat.reduceAdd, Nat.reduceMul, Nat.reduceSub, Nat.reduceBEq, ↓reduceIte]) | refine k_of (by assumption) ?_ | (refine tr_exit ?_; try simp only [ex_seq_exit, ex_block_exit, Nat.reduceEqDiff, if_true, if_false, ex_seq, ex_block, reduceCtorEq, ↓reduceIte]) | (refine tr_ret ?_; try simp only [ex_seq_ret, ex_block_ret]))
      refine (hQ _ _ [iA j] ?_ (fun m => by rw [hv]; rfl)).2 <;> simp only [go_sem, reduceCtorEq, Nat.reduceEqDiff, Nat.reduceLT, Nat.reduceLeDiff, Nat.reduceAdd, Nat.reduceMul, Nat.reduceSub, Nat.reduceBEq, ↓reduceIte, Try.f64]
end Go.Proofs.Ytinbfakpjnnagaa
namespace Go.Proofs.Ytinbfakpjnnagaa
open Go.RowKit Go.Vs Go.Vs.Ab
set_option maxRecDepth 100000
set_option maxHeartbeats 4000000
theorem cut_ab {s : ByteArray} {a b : Nat} (h : a ≤ b) (h2 : b ≤ s.size) : pureVal Try.prog (Instr.sliceAt 9 (.string s) (some (.int .i64 (a : Int))) (some (.int .i64 (b : Int))) none) = some (.string (s.extract a b)) := by
  have hb : pureVal Try.prog (Instr.sliceBounds false s.size s.size (some (.int .i64 (a : Int))) (some (.int .i64 (b : Int))) none) = some (a, b, s.size) := by
    unfold Instr.sliceBounds Instr.sliceBound
    simp only [pv_bind, pv_pure, Option.bind_some, asIntOf]
    rw [if_pos ⟨by omega, by omega⟩]
    simp [pv_pure, h]
  unfold Instr.sliceAt
  rw [pv_bind, pv_under Try.underlying9]
  show pureVal Try.prog (Instr.slice 9 (.string s) (some (.int .i64 (a : Int))) (some (.int .i64 (b : Int))) none) = _
  unfold Instr.slice
  rw [pv_bind, pv_under Try.underlying9]
  simp only [Option.bind_some, Option.isSome_none, Bool.false_eq_true, if_false, pv_bind, hb, pv_pure]
abbrev tkA (t : Tk) : AV := .agg (tkC t)
theorem kind_sign {c : UInt8} (h : signB c = true) : kindOf c = 3 := by
  unfold kindOf
  rw [if_pos h]
theorem kind_great {c : UInt8} (h : signB c = false) (h2 : upperB c = true) : kindOf c = 2 := by
  unfold kindOf
  rw [if_neg (by rw [h]; exact Bool.false_ne_true), if_pos h2]
theorem kind_word {c : UInt8} (h : signB c = false) (h2 : upperB c = false) (h3 : (lowerB c || digB c) = true) : kindOf c = 1 := by
  unfold kindOf
  rw [if_neg (by rw [h]; exact Bool.false_ne_true), if_neg (by rw [h2]; exact Bool.false_ne_true), if_pos h3]
theorem kind_none {c : UInt8} (h : signB c = false) (h2 : upperB c = false) (h3 : (lowerB c || digB c) = false) : kindOf c = 0 := by
  unfold kindOf
  rw [if_neg (by rw [h]; exact Bool.false_ne_true), if_neg (by rw [h2]; exact Bool.false_ne_true), if_neg (by rw [h3]; exact Bool.false_ne_true)]
theorem token_does (s : ByteArray) (i : Nat) (hi : i < s.size) (hz : s.size ≤ 1000000) : Does Try.prog 65 [sA s, iA i] (fun m => (.tup [tkA (tokAt s i).1, iA (tokAt s i).2], m)) := by
  have lsz := lts_len s
  have hil : i < (lts s).length := by omega
  have hT := tokAt_of hil
  have ix := idx_str s hil
  have ws := wrap_succ (show i ≤ 1000000000 by omega)
  have cu1 := cut_ab (s := s) (a := i) (b := i + 1) (by omega) (by omega)
  have hkm := kind_more (c := (lts s)[i])
  have k3 := kind_sign (c := (lts s)[i])
  have k2 := kind_great (c := (lts s)[i])
  have k1 := kind_word (c := (lts s)[i])
  have k0 := kind_none (c := (lts s)[i])
  generalize (lts s)[i] = c at *
  have cI := sign_does c
  have cG := great_does c
  have cS := small_does c
  have cD := digit_does c
  cases h1 : signB c with
  | true =>
    rw [h1] at cI
    rw [hT, if_pos (k3 h1)]
    refine does_of' Try.func65 rfl (by kernel_rfl) rfl Try.ntmps65 rfl rfl fun Q hQ => ?_
    repeat (first | refine tr_seq_k fun _ _ => ?_ | (refine tr_region ?_; simp only [go_sem, reduceCtorEq, Nat.reduceEqDiff, Nat.reduceLT, Nat.reduceLeDiff, Nat.reduceAdd, Nat.reduceMul, Nat.reduceSub, Nat.reduceBEq, ↓reduceIte, ix]) | (refine call_of (cI) ?_ ?_; (first | rfl | simp only [go_sem, reduceCtorEq, Nat.reduceEqDiff, Nat.reduceLT, Nat.reduceLeDiff, Nat.reduceAdd, Nat.reduceMul, Nat.reduceSub, Nat.reduceBEq, ↓reduceIte, ix, shut_col]); simp only [go_sem, reduceCtorEq, Nat.reduceEqDiff, Nat.reduceLT, Nat.reduceLeDiff, Nat.reduceAdd, Nat.reduceMul, Nat.reduceSub, Nat.reduceBEq, ↓reduceIte, ix]) | refine k_of (by assumption) ?_ | refine tr_block ?_)
    refine tr_cond rfl (fun ht => ?_) (fun hf => ?_)
    · repeat (first | refine tr_seq_k fun _ _ => ?_ | (refine tr_region ?_; simp only [go_sem, reduceCtorEq, Nat.reduceEqDiff, Nat.reduceLT, Nat.reduceLeDiff, Nat.reduceAdd, Nat.reduceMul, Nat.reduceSub, Nat.reduceBEq, ↓reduceIte, ws, cu1]) | refine k_of (by assumption) ?_ | (refine tr_ret ?_; try simp only [ex_seq_ret, ex_block_ret]))
      refine (hQ _ _ [.agg [.v (.int .i64 3), .v (.string (s.extract i (i + 1))), .v (.int .i64 i)], iA 0] ?_ (fun m => rfl)).2 <;> simp only [go_sem, reduceCtorEq, Nat.reduceEqDiff, Nat.reduceLT, Nat.reduceLeDiff, Nat.reduceAdd, Nat.reduceMul, Nat.reduceSub, Nat.reduceBEq, ↓reduceIte, Try.f65]
    · cases hf
  | false =>
    rw [h1] at cI
    have k2 := k2 h1
    have k1 := k1 h1
    have k0 := k0 h1
    cases h2 : upperB c with
    | true =>
      rw [h2] at cG
      have hk := k2 h2
      refine does_of' Try.func65 rfl (by kernel_rfl) rfl Try.ntmps65 rfl rfl fun Q hQ => ?_
      repeat (first | refine tr_seq_k fun _ _ => ?_ | (refine tr_region ?_; simp only [go_sem, reduceCtorEq, Nat.reduceEqDiff, Nat.reduceLT, Nat.reduceLeDiff, Nat.reduceAdd, Nat.reduceMul, Nat.reduceSub, Nat.reduceBEq, ↓reduceIte, ix]) | (refine call_of (cI) ?_ ?_; (first | rfl | simp only [go_sem, reduceCtorEq, Nat.reduceEqDiff, Nat.reduceLT, Nat.reduceLeDiff, Nat.reduceAdd, Nat.reduceMul, Nat.reduceSub, Nat.reduceBEq, ↓reduceIte, ix, shut_col]); simp only [go_sem, reduceCtorEq, Nat.reduceEqDiff, Nat.reduceLT, Nat.reduceLeDiff, Nat.reduceAdd, Nat.reduceMul, Nat.reduceSub, Nat.reduceBEq, ↓reduceIte, ix]) | refine k_of (by assumption) ?_ | refine tr_block ?_)
      refine tr_cond rfl (fun ht => ?_) (fun hf => ?_)
      · cases ht
      · repeat (first | refine tr_seq_k fun _ _ => ?_ | (refine tr_region ?_; simp only [go_sem, reduceCtorEq, Nat.reduceEqDiff, Nat.reduceLT, Nat.reduceLeDiff, Nat.reduceAdd, Nat.reduceMul, Nat.reduceSub, Nat.reduceBEq, ↓reduceIte, ix]) | (refine call_of (cG) ?_ ?_; (first | rfl | simp only [go_sem, reduceCtorEq, Nat.reduceEqDiff, Nat.reduceLT, Nat.reduceLeDiff, Nat.reduceAdd, Nat.reduceMul, Nat.reduceSub, Nat.reduceBEq, ↓reduceIte, ix, shut_col]); simp only [go_sem, reduceCtorEq, Nat.reduceEqDiff, Nat.reduceLT, Nat.reduceLeDiff, Nat.reduceAdd, Nat.reduceMul, Nat.reduceSub, Nat.reduceBEq, ↓reduceIte, ix]) | refine k_of (by assumption) ?_)
        refine tr_cond rfl (fun ht => ?_) (fun hf => ?_)
        · repeat (first | refine tr_seq_k fun _ _ => ?_ | (refine tr_region ?_; simp only [go_sem, reduceCtorEq, Nat.reduceEqDiff, Nat.reduceLT, Nat.reduceLeDiff, Nat.reduceAdd, Nat.reduceMul, Nat.reduceSub, Nat.reduceBEq, ↓reduceIte]) | refine k_of (by assumption) ?_ | refine tr_block ?_)
          rw [hk] at hT hkm
          rw [if_neg (by decide), if_neg (by decide)] at hT
          refine tr_loop_k (σ := Nat) (fun j => [(0, sA s), (1, iA i), (4, .ptr 0 0), (6, .ptr 1 0), (7, iA j)]) (fun _ => ⟨[⟨false, [iA 0, sA ⟨#[]⟩, iA 0]⟩, ⟨false, [iA 2, sA ⟨#[]⟩, iA i]⟩], []⟩) (fun j => i ≤ j ∧ j ≤ s.size ∧ runAt 2 s j = runAt 2 s i) (fun j => s.size - j) i ⟨Nat.le_refl _, by omega, rfl⟩ ⟨rfl, rfl, rfl, rfl, rfl, trivial⟩ rfl ?_
          rintro j ⟨hij, hj, hjT⟩ K hK
          by_cases hjl : j < (lts s).length
          · have d3 : decide ((j : Int) < (s.size : Nat)) = true := decide_eq_true (by omega)
            have ix2 := idx_str s hjl
            have ws2 := wrap_succ (show j ≤ 1000000000 by omega)
            have hn2 := run_next (kind := 2) hjl
            have hs2 := run_stop (kind := 2) hjl
            generalize (lts s)[j] = c2 at *
            have cM := more_does 2 c2
            cases h4 : moreB 2 c2 with
            | true =>
              rw [h4] at cM
              repeat (first | refine tr_seq_k fun _ _ => ?_ | (refine tr_draw (id := 10) follows 10000 [10] [0, 1, 2, 3, 4, 5, 6, 7, 8, 9, 10, 11] (by kernel_rfl) ?_; simp only [go_sem, reduceCtorEq, Nat.reduceEqDiff, Nat.reduceLT, Nat.reduceLeDiff, Nat.reduceAdd, Nat.reduceMul, Nat.reduceSub, Nat.reduceBEq, ↓reduceIte, d3, ix2]) | (refine call_of (cM) ?_ ?_; (first | rfl | simp only [go_sem, reduceCtorEq, Nat.reduceEqDiff, Nat.reduceLT, Nat.reduceLeDiff, Nat.reduceAdd, Nat.reduceMul, Nat.reduceSub, Nat.reduceBEq, ↓reduceIte, d3, ix2, shut_col]); simp only [go_sem, reduceCtorEq, Nat.reduceEqDiff, Nat.reduceLT, Nat.reduceLeDiff, Nat.reduceAdd, Nat.reduceMul, Nat.reduceSub, Nat.reduceBEq, ↓reduceIte, d3, ix2]) | refine k_of (by assumption) ?_)
              refine tr_cond rfl (fun ht => ?_) (fun hf => ?_)
              · repeat (first | (refine tr_region ?_; simp only [go_sem, reduceCtorEq, Nat.reduceEqDiff, Nat.reduceLT, Nat.reduceLeDiff, Nat.reduceAdd, Nat.reduceMul, Nat.reduceSub, Nat.reduceBEq, ↓reduceIte, ws2]) | refine k_of (by assumption) ?_ | refine tr_block ?_ | (refine tr_skip ?_; try simp only [ex_seq, ex_block]))
                exact hK (j + 1) _ _ ⟨by omega, by omega, (hn2 h4).trans hjT⟩ ⟨⟨rfl, rfl, rfl, rfl, rfl, trivial⟩, Keep.refl _, rfl, rfl, Nat.le_refl _, Nat.le_refl _⟩ (by omega)
              · cases hf
            | false =>
              rw [h4] at cM
              have hv : runAt 2 s i = j := hjT.symm.trans (hs2 h4)
              repeat (first | refine tr_seq_k fun _ _ => ?_ | (refine tr_draw (id := 10) follows 10000 [10] [0, 1, 2, 3, 4, 5, 6, 7, 8, 9, 10, 11] (by kernel_rfl) ?_; simp only [go_sem, reduceCtorEq, Nat.reduceEqDiff, Nat.reduceLT, Nat.reduceLeDiff, Nat.reduceAdd, Nat.reduceMul, Nat.reduceSub, Nat.reduceBEq, ↓reduceIte, d3, ix2]) | (refine call_of (cM) ?_ ?_; (first | rfl | simp only [go_sem, reduceCtorEq, Nat.reduceEqDiff, Nat.reduceLT, Nat.reduceLeDiff, Nat.reduceAdd, Nat.reduceMul, Nat.reduceSub, Nat.reduceBEq, ↓reduceIte, d3, ix2, shut_col]); simp only [go_sem, reduceCtorEq, Nat.reduceEqDiff, Nat.reduceLT, Nat.reduceLeDiff, Nat.reduceAdd, Nat.reduceMul, Nat.reduceSub, Nat.reduceBEq, ↓reduceIte, d3, ix2]) | refine k_of (by assumption) ?_)
              refine tr_cond rfl (fun ht => ?_) (fun hf => ?_)
              · cases ht
              · rw [hv] at hT
                have w5 : IntKind.i64.wrap ((j : Int) - (i : Nat)) = ((j - i : Nat) : Int) := by rw [wrap_in (by omega)]; omega
                by_cases h5 : 255 < j - i
                · rw [if_pos h5] at hT
                  have d5 : decide (((j - i : Nat) : Int) > 255) = true := decide_eq_true (by omega)
                  rw [hT] at hQ
                  repeat (first | refine tr_seq_k fun _ _ => ?_ | (refine tr_region ?_; simp only [go_sem, reduceCtorEq, Nat.reduceEqDiff, Nat.reduceLT, Nat.reduceLeDiff, Nat.reduceAdd, Nat.reduceMul, Nat.reduceSub, Nat.reduceBEq, ↓reduceIte, w5, d5]) | refine k_of (by assumption) ?_ | (refine tr_exit ?_; try simp only [ex_seq_exit, ex_block_exit, Nat.reduceEqDiff, if_true, if_false, ex_seq, ex_block, reduceCtorEq, ↓reduceIte]))
                  refine tr_cond rfl (fun ht => ?_) (fun hf => ?_)
                  · repeat (first | refine tr_seq_k fun _ _ => ?_ | (refine tr_region ?_; simp only [go_sem, reduceCtorEq, Nat.reduceEqDiff, Nat.reduceLT, Nat.reduceLeDiff, Nat.reduceAdd, Nat.reduceMul, Nat.reduceSub, Nat.reduceBEq, ↓reduceIte]) | refine k_of (by assumption) ?_ | (refine tr_ret ?_; try simp only [ex_seq_ret, ex_block_ret]))
                    refine (hQ _ _ [.agg [.v (.int .i64 0), .v (.string ⟨#[]⟩), .v (.int .i64 0)], iA 4] ?_ (fun m => rfl)).2 <;> simp only [go_sem, reduceCtorEq, Nat.reduceEqDiff, Nat.reduceLT, Nat.reduceLeDiff, Nat.reduceAdd, Nat.reduceMul, Nat.reduceSub, Nat.reduceBEq, ↓reduceIte, Try.f65]
                  · cases hf
                · rw [if_neg h5] at hT
                  have d5 : decide (((j - i : Nat) : Int) > 255) = false := decide_eq_false (by omega)
                  have cu := cut_ab (s := s) hij hj
                  rw [hT] at hQ
                  repeat (first | refine tr_seq_k fun _ _ => ?_ | (refine tr_region ?_; simp only [go_sem, reduceCtorEq, Nat.reduceEqDiff, Nat.reduceLT, Nat.reduceLeDiff, Nat.reduceAdd, Nat.reduceMul, Nat.reduceSub, Nat.reduceBEq, ↓reduceIte, w5, d5]) | refine k_of (by assumption) ?_ | (refine tr_exit ?_; try simp only [ex_seq_exit, ex_block_exit, Nat.reduceEqDiff, if_true, if_false, ex_seq, ex_block, reduceCtorEq, ↓reduceIte]))
                  refine tr_cond rfl (fun ht => ?_) (fun hf => ?_)
                  · cases ht
                  · repeat (first | refine tr_seq_k fun _ _ => ?_ | (refine tr_region ?_; simp only [go_sem, reduceCtorEq, Nat.reduceEqDiff, Nat.reduceLT, Nat.reduceLeDiff, Nat.reduceAdd, Nat.reduceMul, Nat.reduceSub, Nat.reduceBEq, ↓reduceIte, cu]) | refine k_of (by assumption) ?_ | (refine tr_skip ?_; try simp only [ex_seq, ex_block]) | (refine tr_ret ?_; try simp only [ex_seq_ret, ex_block_ret]))
                    refine (hQ _ _ [.agg [.v (.int .i64 2), .v (.string (s.extract i j)), .v (.int .i64 i)], iA 0] ?_ (fun m => rfl)).2 <;> simp only [go_sem, reduceCtorEq, Nat.reduceEqDiff, Nat.reduceLT, Nat.reduceLeDiff, Nat.reduceAdd, Nat.reduceMul, Nat.reduceSub, Nat.reduceBEq, ↓reduceIte, Try.f65]
          · have d3 : decide ((j : Int) < (s.size : Nat)) = false := decide_eq_false (by omega)
            have hv : runAt 2 s i = j := hjT.symm.trans (run_end hjl)
            repeat (first | refine tr_seq_k fun _ _ => ?_ | (refine tr_draw (id := 10) follows 10000 [10] [0, 1, 2, 3, 4, 5, 6, 7, 8, 9, 10, 11] (by kernel_rfl) ?_; simp only [go_sem, reduceCtorEq, Nat.reduceEqDiff, Nat.reduceLT, Nat.reduceLeDiff, Nat.reduceAdd, Nat.reduceMul, Nat.reduceSub, Nat.reduceBEq, ↓reduceIte, d3]) | refine k_of (by assumption) ?_)
            refine tr_cond rfl (fun ht => ?_) (fun hf => ?_)
            · cases ht
            · rw [hv] at hT
              have w5 : IntKind.i64.wrap ((j : Int) - (i : Nat)) = ((j - i : Nat) : Int) := by rw [wrap_in (by omega)]; omega
              by_cases h5 : 255 < j - i
              · rw [if_pos h5] at hT
                have d5 : decide (((j - i : Nat) : Int) > 255) = true := decide_eq_true (by omega)
                rw [hT] at hQ
                repeat (first | refine tr_seq_k fun _ _ => ?_ | (refine tr_region ?_; simp only [go_sem, reduceCtorEq, Nat.reduceEqDiff, Nat.reduceLT, Nat.reduceLeDiff, Nat.reduceAdd, Nat.reduceMul, Nat.reduceSub, Nat.reduceBEq, ↓reduceIte, w5, d5]) | refine k_of (by assumption) ?_ | (refine tr_exit ?_; try simp only [ex_seq_exit, ex_block_exit, Nat.reduceEqDiff, if_true, if_false, ex_seq, ex_block, reduceCtorEq, ↓reduceIte]))
                refine tr_cond rfl (fun ht => ?_) (fun hf => ?_)
                · repeat (first | refine tr_seq_k fun _ _ => ?_ | (refine tr_region ?_; simp only [go_sem, reduceCtorEq, Nat.reduceEqDiff, Nat.reduceLT, Nat.reduceLeDiff, Nat.reduceAdd, Nat.reduceMul, Nat.reduceSub, Nat.reduceBEq, ↓reduceIte]) | refine k_of (by assumption) ?_ | (refine tr_ret ?_; try simp only [ex_seq_ret, ex_block_ret]))
                  refine (hQ _ _ [.agg [.v (.int .i64 0), .v (.string ⟨#[]⟩), .v (.int .i64 0)], iA 4] ?_ (fun m => rfl)).2 <;> simp only [go_sem, reduceCtorEq, Nat.reduceEqDiff, Nat.reduceLT, Nat.reduceLeDiff, Nat.reduceAdd, Nat.reduceMul, Nat.reduceSub, Nat.reduceBEq, ↓reduceIte, Try.f65]
                · cases hf
              · rw [if_neg h5] at hT
                have d5 : decide (((j - i : Nat) : Int) > 255) = false := decide_eq_false (by omega)
                have cu := cut_ab (s := s) hij hj
                rw [hT] at hQ
                repeat (first | refine tr_seq_k fun _ _ => ?_ | (refine tr_region ?_; simp only [go_sem, reduceCtorEq, Nat.reduceEqDiff, Nat.reduceLT, Nat.reduceLeDiff, Nat.reduceAdd, Nat.reduceMul, Nat.reduceSub, Nat.reduceBEq, ↓reduceIte, w5, d5]) | refine k_of (by assumption) ?_ | (refine tr_exit ?_; try simp only [ex_seq_exit, ex_block_exit, Nat.reduceEqDiff, if_true, if_false, ex_seq, ex_block, reduceCtorEq, ↓reduceIte]))
                refine tr_cond rfl (fun ht => ?_) (fun hf => ?_)
                · cases ht
                · repeat (first | refine tr_seq_k fun _ _ => ?_ | (refine tr_region ?_; simp only [go_sem, reduceCtorEq, Nat.reduceEqDiff, Nat.reduceLT, Nat.reduceLeDiff, Nat.reduceAdd, Nat.reduceMul, Nat.reduceSub, Nat.reduceBEq, ↓reduceIte, cu]) | refine k_of (by assumption) ?_ | (refine tr_skip ?_; try simp only [ex_seq, ex_block]) | (refine tr_ret ?_; try simp only [ex_seq_ret, ex_block_ret]))
                  refine (hQ _ _ [.agg [.v (.int .i64 2), .v (.string (s.extract i j)), .v (.int .i64 i)], iA 0] ?_ (fun m => rfl)).2 <;> simp only [go_sem, reduceCtorEq, Nat.reduceEqDiff, Nat.reduceLT, Nat.reduceLeDiff, Nat.reduceAdd, Nat.reduceMul, Nat.reduceSub, Nat.reduceBEq, ↓reduceIte, Try.f65]
        · cases hf
    | false =>
      rw [h2] at cG
      have k1 := k1 h2
      have k0 := k0 h2
      cases h3 : lowerB c with
      | true =>
        rw [h3] at cS k1
        have hk := k1 rfl
        refine does_of' Try.func65 rfl (by kernel_rfl) rfl Try.ntmps65 rfl rfl fun Q hQ => ?_
        repeat (first | refine tr_seq_k fun _ _ => ?_ | (refine tr_region ?_; simp only [go_sem, reduceCtorEq, Nat.reduceEqDiff, Nat.reduceLT, Nat.reduceLeDiff, Nat.reduceAdd, Nat.reduceMul, Nat.reduceSub, Nat.reduceBEq, ↓reduceIte, ix]) | (refine call_of (cI) ?_ ?_; (first | rfl | simp only [go_sem, reduceCtorEq, Nat.reduceEqDiff, Nat.reduceLT, Nat.reduceLeDiff, Nat.reduceAdd, Nat.reduceMul, Nat.reduceSub, Nat.reduceBEq, ↓reduceIte, ix, shut_col]); simp only [go_sem, reduceCtorEq, Nat.reduceEqDiff, Nat.reduceLT, Nat.reduceLeDiff, Nat.reduceAdd, Nat.reduceMul, Nat.reduceSub, Nat.reduceBEq, ↓reduceIte, ix]) | refine k_of (by assumption) ?_ | refine tr_block ?_)
        refine tr_cond rfl (fun ht => ?_) (fun hf => ?_)
        · cases ht
        · repeat (first | refine tr_seq_k fun _ _ => ?_ | (refine tr_region ?_; simp only [go_sem, reduceCtorEq, Nat.reduceEqDiff, Nat.reduceLT, Nat.reduceLeDiff, Nat.reduceAdd, Nat.reduceMul, Nat.reduceSub, Nat.reduceBEq, ↓reduceIte, ix]) | (refine call_of (cG) ?_ ?_; (first | rfl | simp only [go_sem, reduceCtorEq, Nat.reduceEqDiff, Nat.reduceLT, Nat.reduceLeDiff, Nat.reduceAdd, Nat.reduceMul, Nat.reduceSub, Nat.reduceBEq, ↓reduceIte, ix, shut_col]); simp only [go_sem, reduceCtorEq, Nat.reduceEqDiff, Nat.reduceLT, Nat.reduceLeDiff, Nat.reduceAdd, Nat.reduceMul, Nat.reduceSub, Nat.reduceBEq, ↓reduceIte, ix]) | refine k_of (by assumption) ?_)
          refine tr_cond rfl (fun ht => ?_) (fun hf => ?_)
          · cases ht
          · repeat (first | refine tr_seq_k fun _ _ => ?_ | (refine tr_region ?_; simp only [go_sem, reduceCtorEq, Nat.reduceEqDiff, Nat.reduceLT, Nat.reduceLeDiff, Nat.reduceAdd, Nat.reduceMul, Nat.reduceSub, Nat.reduceBEq, ↓reduceIte, ix]) | (refine call_of (cS) ?_ ?_; (first | rfl | simp only [go_sem, reduceCtorEq, Nat.reduceEqDiff, Nat.reduceLT, Nat.reduceLeDiff, Nat.reduceAdd, Nat.reduceMul, Nat.reduceSub, Nat.reduceBEq, ↓reduceIte, ix, shut_col]); simp only [go_sem, reduceCtorEq, Nat.reduceEqDiff, Nat.reduceLT, Nat.reduceLeDiff, Nat.reduceAdd, Nat.reduceMul, Nat.reduceSub, Nat.reduceBEq, ↓reduceIte, ix]) | refine k_of (by assumption) ?_)
            refine tr_cond rfl (fun ht => ?_) (fun hf => ?_)
            · repeat (first | refine tr_seq_k fun _ _ => ?_ | (refine tr_region ?_; simp only [go_sem, reduceCtorEq, Nat.reduceEqDiff, Nat.reduceLT, Nat.reduceLeDiff, Nat.reduceAdd, Nat.reduceMul, Nat.reduceSub, Nat.reduceBEq, ↓reduceIte]) | refine k_of (by assumption) ?_ | refine tr_block ?_)
              rw [hk] at hT hkm
              rw [if_neg (by decide), if_neg (by decide)] at hT
              refine tr_loop_k (σ := Nat) (fun j => [(0, sA s), (1, iA i), (4, .ptr 0 0), (6, .ptr 1 0), (7, iA j)]) (fun _ => ⟨[⟨false, [iA 0, sA ⟨#[]⟩, iA 0]⟩, ⟨false, [iA 1, sA ⟨#[]⟩, iA i]⟩], []⟩) (fun j => i ≤ j ∧ j ≤ s.size ∧ runAt 1 s j = runAt 1 s i) (fun j => s.size - j) i ⟨Nat.le_refl _, by omega, rfl⟩ ⟨rfl, rfl, rfl, rfl, rfl, trivial⟩ rfl ?_
              rintro j ⟨hij, hj, hjT⟩ K hK
              by_cases hjl : j < (lts s).length
              · have d3 : decide ((j : Int) < (s.size : Nat)) = true := decide_eq_true (by omega)
                have ix2 := idx_str s hjl
                have ws2 := wrap_succ (show j ≤ 1000000000 by omega)
                have hn2 := run_next (kind := 1) hjl
                have hs2 := run_stop (kind := 1) hjl
                generalize (lts s)[j] = c2 at *
                have cM := more_does 1 c2
                cases h4 : moreB 1 c2 with
                | true =>
                  rw [h4] at cM
                  repeat (first | refine tr_seq_k fun _ _ => ?_ | (refine tr_draw (id := 10) follows 10000 [10] [0, 1, 2, 3, 4, 5, 6, 7, 8, 9, 10, 11] (by kernel_rfl) ?_; simp only [go_sem, reduceCtorEq, Nat.reduceEqDiff, Nat.reduceLT, Nat.reduceLeDiff, Nat.reduceAdd, Nat.reduceMul, Nat.reduceSub, Nat.reduceBEq, ↓reduceIte, d3, ix2]) | (refine call_of (cM) ?_ ?_; (first | rfl | simp only [go_sem, reduceCtorEq, Nat.reduceEqDiff, Nat.reduceLT, Nat.reduceLeDiff, Nat.reduceAdd, Nat.reduceMul, Nat.reduceSub, Nat.reduceBEq, ↓reduceIte, d3, ix2, shut_col]); simp only [go_sem, reduceCtorEq, Nat.reduceEqDiff, Nat.reduceLT, Nat.reduceLeDiff, Nat.reduceAdd, Nat.reduceMul, Nat.reduceSub, Nat.reduceBEq, ↓reduceIte, d3, ix2]) | refine k_of (by assumption) ?_)
                  refine tr_cond rfl (fun ht => ?_) (fun hf => ?_)
                  · repeat (first | (refine tr_region ?_; simp only [go_sem, reduceCtorEq, Nat.reduceEqDiff, Nat.reduceLT, Nat.reduceLeDiff, Nat.reduceAdd, Nat.reduceMul, Nat.reduceSub, Nat.reduceBEq, ↓reduceIte, ws2]) | refine k_of (by assumption) ?_ | refine tr_block ?_ | (refine tr_skip ?_; try simp only [ex_seq, ex_block]))
                    exact hK (j + 1) _ _ ⟨by omega, by omega, (hn2 h4).trans hjT⟩ ⟨⟨rfl, rfl, rfl, rfl, rfl, trivial⟩, Keep.refl _, rfl, rfl, Nat.le_refl _, Nat.le_refl _⟩ (by omega)
                  · cases hf
                | false =>
                  rw [h4] at cM
                  have hv : runAt 1 s i = j := hjT.symm.trans (hs2 h4)
                  repeat (first | refine tr_seq_k fun _ _ => ?_ | (refine tr_draw (id := 10) follows 10000 [10] [0, 1, 2, 3, 4, 5, 6, 7, 8, 9, 10, 11] (by kernel_rfl) ?_; simp only [go_sem, reduceCtorEq, Nat.reduceEqDiff, Nat.reduceLT, Nat.reduceLeDiff, Nat.reduceAdd, Nat.reduceMul, Nat.reduceSub, Nat.reduceBEq, ↓reduceIte, d3, ix2]) | (refine call_of (cM) ?_ ?_; (first | rfl | simp only [go_sem, reduceCtorEq, Nat.reduceEqDiff, Nat.reduceLT, Nat.reduceLeDiff, Nat.reduceAdd, Nat.reduceMul, Nat.reduceSub, Nat.reduceBEq, ↓reduceIte, d3, ix2, shut_col]); simp only [go_sem, reduceCtorEq, Nat.reduceEqDiff, Nat.reduceLT, Nat.reduceLeDiff, Nat.reduceAdd, Nat.reduceMul, Nat.reduceSub, Nat.reduceBEq, ↓reduceIte, d3, ix2]) | refine k_of (by assumption) ?_)
                  refine tr_cond rfl (fun ht => ?_) (fun hf => ?_)
                  · cases ht
                  · rw [hv] at hT
                    have w5 : IntKind.i64.wrap ((j : Int) - (i : Nat)) = ((j - i : Nat) : Int) := by rw [wrap_in (by omega)]; omega
                    by_cases h5 : 255 < j - i
                    · rw [if_pos h5] at hT
                      have d5 : decide (((j - i : Nat) : Int) > 255) = true := decide_eq_true (by omega)
                      rw [hT] at hQ
                      repeat (first | refine tr_seq_k fun _ _ => ?_ | (refine tr_region ?_; simp only [go_sem, reduceCtorEq, Nat.reduceEqDiff, Nat.reduceLT, Nat.reduceLeDiff, Nat.reduceAdd, Nat.reduceMul, Nat.reduceSub, Nat.reduceBEq, ↓reduceIte, w5, d5]) | refine k_of (by assumption) ?_ | (refine tr_exit ?_; try simp only [ex_seq_exit, ex_block_exit, Nat.reduceEqDiff, if_true, if_false, ex_seq, ex_block, reduceCtorEq, ↓reduceIte]))
                      refine tr_cond rfl (fun ht => ?_) (fun hf => ?_)
                      · repeat (first | refine tr_seq_k fun _ _ => ?_ | (refine tr_region ?_; simp only [go_sem, reduceCtorEq, Nat.reduceEqDiff, Nat.reduceLT, Nat.reduceLeDiff, Nat.reduceAdd, Nat.reduceMul, Nat.reduceSub, Nat.reduceBEq, ↓reduceIte]) | refine k_of (by assumption) ?_ | (refine tr_ret ?_; try simp only [ex_seq_ret, ex_block_ret]))
                        refine (hQ _ _ [.agg [.v (.int .i64 0), .v (.string ⟨#[]⟩), .v (.int .i64 0)], iA 4] ?_ (fun m => rfl)).2 <;> simp only [go_sem, reduceCtorEq, Nat.reduceEqDiff, Nat.reduceLT, Nat.reduceLeDiff, Nat.reduceAdd, Nat.reduceMul, Nat.reduceSub, Nat.reduceBEq, ↓reduceIte, Try.f65]
                      · cases hf
                    · rw [if_neg h5] at hT
                      have d5 : decide (((j - i : Nat) : Int) > 255) = false := decide_eq_false (by omega)
                      have cu := cut_ab (s := s) hij hj
                      rw [hT] at hQ
                      repeat (first | refine tr_seq_k fun _ _ => ?_ | (refine tr_region ?_; simp only [go_sem, reduceCtorEq, Nat.reduceEqDiff, Nat.reduceLT, Nat.reduceLeDiff, Nat.reduceAdd, Nat.reduceMul, Nat.reduceSub, Nat.reduceBEq, ↓reduceIte, w5, d5]) | refine k_of (by assumption) ?_ | (refine tr_exit ?_; try simp only [ex_seq_exit, ex_block_exit, Nat.reduceEqDiff, if_true, if_false, ex_seq, ex_block, reduceCtorEq, ↓reduceIte]))
                      refine tr_cond rfl (fun ht => ?_) (fun hf => ?_)
                      · cases ht
                      · repeat (first | refine tr_seq_k fun _ _ => ?_ | (refine tr_region ?_; simp only [go_sem, reduceCtorEq, Nat.reduceEqDiff, Nat.reduceLT, Nat.reduceLeDiff, Nat.reduceAdd, Nat.reduceMul, Nat.reduceSub, Nat.reduceBEq, ↓reduceIte, cu]) | refine k_of (by assumption) ?_ | (refine tr_skip ?_; try simp only [ex_seq, ex_block]) | (refine tr_ret ?_; try simp only [ex_seq_ret, ex_block_ret]))
                        refine (hQ _ _ [.agg [.v (.int .i64 1), .v (.string (s.extract i j)), .v (.int .i64 i)], iA 0] ?_ (fun m => rfl)).2 <;> simp only [go_sem, reduceCtorEq, Nat.reduceEqDiff, Nat.reduceLT, Nat.reduceLeDiff, Nat.reduceAdd, Nat.reduceMul, Nat.reduceSub, Nat.reduceBEq, ↓reduceIte, Try.f65]
              · have d3 : decide ((j : Int) < (s.size : Nat)) = false := decide_eq_false (by omega)
                have hv : runAt 1 s i = j := hjT.symm.trans (run_end hjl)
                repeat (first | refine tr_seq_k fun _ _ => ?_ | (refine tr_draw (id := 10) follows 10000 [10] [0, 1, 2, 3, 4, 5, 6, 7, 8, 9, 10, 11] (by kernel_rfl) ?_; simp only [go_sem, reduceCtorEq, Nat.reduceEqDiff, Nat.reduceLT, Nat.reduceLeDiff, Nat.reduceAdd, Nat.reduceMul, Nat.reduceSub, Nat.reduceBEq, ↓reduceIte, d3]) | refine k_of (by assumption) ?_)
                refine tr_cond rfl (fun ht => ?_) (fun hf => ?_)
                · cases ht
                · rw [hv] at hT
                  have w5 : IntKind.i64.wrap ((j : Int) - (i : Nat)) = ((j - i : Nat) : Int) := by rw [wrap_in (by omega)]; omega
                  by_cases h5 : 255 < j - i
                  · rw [if_pos h5] at hT
                    have d5 : decide (((j - i : Nat) : Int) > 255) = true := decide_eq_true (by omega)
                    rw [hT] at hQ
                    repeat (first | refine tr_seq_k fun _ _ => ?_ | (refine tr_region ?_; simp only [go_sem, reduceCtorEq, Nat.reduceEqDiff, Nat.reduceLT, Nat.reduceLeDiff, Nat.reduceAdd, Nat.reduceMul, Nat.reduceSub, Nat.reduceBEq, ↓reduceIte, w5, d5]) | refine k_of (by assumption) ?_ | (refine tr_exit ?_; try simp only [ex_seq_exit, ex_block_exit, Nat.reduceEqDiff, if_true, if_false, ex_seq, ex_block, reduceCtorEq, ↓reduceIte]))
                    refine tr_cond rfl (fun ht => ?_) (fun hf => ?_)
                    · repeat (first | refine tr_seq_k fun _ _ => ?_ | (refine tr_region ?_; simp only [go_sem, reduceCtorEq, Nat.reduceEqDiff, Nat.reduceLT, Nat.reduceLeDiff, Nat.reduceAdd, Nat.reduceMul, Nat.reduceSub, Nat.reduceBEq, ↓reduceIte]) | refine k_of (by assumption) ?_ | (refine tr_ret ?_; try simp only [ex_seq_ret, ex_block_ret]))
                      refine (hQ _ _ [.agg [.v (.int .i64 0), .v (.string ⟨#[]⟩), .v (.int .i64 0)], iA 4] ?_ (fun m => rfl)).2 <;> simp only [go_sem, reduceCtorEq, Nat.reduceEqDiff, Nat.reduceLT, Nat.reduceLeDiff, Nat.reduceAdd, Nat.reduceMul, Nat.reduceSub, Nat.reduceBEq, ↓reduceIte, Try.f65]
                    · cases hf
                  · rw [if_neg h5] at hT
                    have d5 : decide (((j - i : Nat) : Int) > 255) = false := decide_eq_false (by omega)
                    have cu := cut_ab (s := s) hij hj
                    rw [hT] at hQ
                    repeat (first | refine tr_seq_k fun _ _ => ?_ | (refine tr_region ?_; simp only [go_sem, reduceCtorEq, Nat.reduceEqDiff, Nat.reduceLT, Nat.reduceLeDiff, Nat.reduceAdd, Nat.reduceMul, Nat.reduceSub, Nat.reduceBEq, ↓reduceIte, w5, d5]) | refine k_of (by assumption) ?_ | (refine tr_exit ?_; try simp only [ex_seq_exit, ex_block_exit, Nat.reduceEqDiff, if_true, if_false, ex_seq, ex_block, reduceCtorEq, ↓reduceIte]))
                    refine tr_cond rfl (fun ht => ?_) (fun hf => ?_)
                    · cases ht
                    · repeat (first | refine tr_seq_k fun _ _ => ?_ | (refine tr_region ?_; simp only [go_sem, reduceCtorEq, Nat.reduceEqDiff, Nat.reduceLT, Nat.reduceLeDiff, Nat.reduceAdd, Nat.reduceMul, Nat.reduceSub, Nat.reduceBEq, ↓reduceIte, cu]) | refine k_of (by assumption) ?_ | (refine tr_skip ?_; try simp only [ex_seq, ex_block]) | (refine tr_ret ?_; try simp only [ex_seq_ret, ex_block_ret]))
                      refine (hQ _ _ [.agg [.v (.int .i64 1), .v (.string (s.extract i j)), .v (.int .i64 i)], iA 0] ?_ (fun m => rfl)).2 <;> simp only [go_sem, reduceCtorEq, Nat.reduceEqDiff, Nat.reduceLT, Nat.reduceLeDiff, Nat.reduceAdd, Nat.reduceMul, Nat.reduceSub, Nat.reduceBEq, ↓reduceIte, Try.f65]
            · cases hf
      | false =>
        rw [h3] at cS k1 k0
        cases h4 : digB c with
        | true =>
          rw [h4] at cD k1
          have hk := k1 rfl
          refine does_of' Try.func65 rfl (by kernel_rfl) rfl Try.ntmps65 rfl rfl fun Q hQ => ?_
          repeat (first | refine tr_seq_k fun _ _ => ?_ | (refine tr_region ?_; simp only [go_sem, reduceCtorEq, Nat.reduceEqDiff, Nat.reduceLT, Nat.reduceLeDiff, Nat.reduceAdd, Nat.reduceMul, Nat.reduceSub, Nat.reduceBEq, ↓reduceIte, ix]) | (refine call_of (cI) ?_ ?_; (first | rfl | simp only [go_sem, reduceCtorEq, Nat.reduceEqDiff, Nat.reduceLT, Nat.reduceLeDiff, Nat.reduceAdd, Nat.reduceMul, Nat.reduceSub, Nat.reduceBEq, ↓reduceIte, ix, shut_col]); simp only [go_sem, reduceCtorEq, Nat.reduceEqDiff, Nat.reduceLT, Nat.reduceLeDiff, Nat.reduceAdd, Nat.reduceMul, Nat.reduceSub, Nat.reduceBEq, ↓reduceIte, ix]) | refine k_of (by assumption) ?_ | refine tr_block ?_)
          refine tr_cond rfl (fun ht => ?_) (fun hf => ?_)
          · cases ht
          · repeat (first | refine tr_seq_k fun _ _ => ?_ | (refine tr_region ?_; simp only [go_sem, reduceCtorEq, Nat.reduceEqDiff, Nat.reduceLT, Nat.reduceLeDiff, Nat.reduceAdd, Nat.reduceMul, Nat.reduceSub, Nat.reduceBEq, ↓reduceIte, ix]) | (refine call_of (cG) ?_ ?_; (first | rfl | simp only [go_sem, reduceCtorEq, Nat.reduceEqDiff, Nat.reduceLT, Nat.reduceLeDiff, Nat.reduceAdd, Nat.reduceMul, Nat.reduceSub, Nat.reduceBEq, ↓reduceIte, ix, shut_col]); simp only [go_sem, reduceCtorEq, Nat.reduceEqDiff, Nat.reduceLT, Nat.reduceLeDiff, Nat.reduceAdd, Nat.reduceMul, Nat.reduceSub, Nat.reduceBEq, ↓reduceIte, ix]) | refine k_of (by assumption) ?_)
            refine tr_cond rfl (fun ht => ?_) (fun hf => ?_)
            · cases ht
            · repeat (first | refine tr_seq_k fun _ _ => ?_ | (refine tr_region ?_; simp only [go_sem, reduceCtorEq, Nat.reduceEqDiff, Nat.reduceLT, Nat.reduceLeDiff, Nat.reduceAdd, Nat.reduceMul, Nat.reduceSub, Nat.reduceBEq, ↓reduceIte, ix]) | (refine call_of (cS) ?_ ?_; (first | rfl | simp only [go_sem, reduceCtorEq, Nat.reduceEqDiff, Nat.reduceLT, Nat.reduceLeDiff, Nat.reduceAdd, Nat.reduceMul, Nat.reduceSub, Nat.reduceBEq, ↓reduceIte, ix, shut_col]); simp only [go_sem, reduceCtorEq, Nat.reduceEqDiff, Nat.reduceLT, Nat.reduceLeDiff, Nat.reduceAdd, Nat.reduceMul, Nat.reduceSub, Nat.reduceBEq, ↓reduceIte, ix]) | (refine call_of (cD) ?_ ?_; (first | rfl | simp only [go_sem, reduceCtorEq, Nat.reduceEqDiff, Nat.reduceLT, Nat.reduceLeDiff, Nat.reduceAdd, Nat.reduceMul, Nat.reduceSub, Nat.reduceBEq, ↓reduceIte, ix, shut_col]); simp only [go_sem, reduceCtorEq, Nat.reduceEqDiff, Nat.reduceLT, Nat.reduceLeDiff, Nat.reduceAdd, Nat.reduceMul, Nat.reduceSub, Nat.reduceBEq, ↓reduceIte, ix]) | refine k_of (by assumption) ?_)
              refine tr_cond rfl (fun ht => ?_) (fun hf => ?_)
              · repeat (first | refine tr_seq_k fun _ _ => ?_ | (refine tr_region ?_; simp only [go_sem, reduceCtorEq, Nat.reduceEqDiff, Nat.reduceLT, Nat.reduceLeDiff, Nat.reduceAdd, Nat.reduceMul, Nat.reduceSub, Nat.reduceBEq, ↓reduceIte]) | refine k_of (by assumption) ?_ | refine tr_block ?_)
                rw [hk] at hT hkm
                rw [if_neg (by decide), if_neg (by decide)] at hT
                refine tr_loop_k (σ := Nat) (fun j => [(0, sA s), (1, iA i), (4, .ptr 0 0), (6, .ptr 1 0), (7, iA j)]) (fun _ => ⟨[⟨false, [iA 0, sA ⟨#[]⟩, iA 0]⟩, ⟨false, [iA 1, sA ⟨#[]⟩, iA i]⟩], []⟩) (fun j => i ≤ j ∧ j ≤ s.size ∧ runAt 1 s j = runAt 1 s i) (fun j => s.size - j) i ⟨Nat.le_refl _, by omega, rfl⟩ ⟨rfl, rfl, rfl, rfl, rfl, trivial⟩ rfl ?_
                rintro j ⟨hij, hj, hjT⟩ K hK
                by_cases hjl : j < (lts s).length
                · have d3 : decide ((j : Int) < (s.size : Nat)) = true := decide_eq_true (by omega)
                  have ix2 := idx_str s hjl
                  have ws2 := wrap_succ (show j ≤ 1000000000 by omega)
                  have hn2 := run_next (kind := 1) hjl
                  have hs2 := run_stop (kind := 1) hjl
                  generalize (lts s)[j] = c2 at *
                  have cM := more_does 1 c2
                  cases h4 : moreB 1 c2 with
                  | true =>
                    rw [h4] at cM
                    repeat (first | refine tr_seq_k fun _ _ => ?_ | (refine tr_draw (id := 10) follows 10000 [10] [0, 1, 2, 3, 4, 5, 6, 7, 8, 9, 10, 11] (by kernel_rfl) ?_; simp only [go_sem, reduceCtorEq, Nat.reduceEqDiff, Nat.reduceLT, Nat.reduceLeDiff, Nat.reduceAdd, Nat.reduceMul, Nat.reduceSub, Nat.reduceBEq, ↓reduceIte, d3, ix2]) | (refine call_of (cM) ?_ ?_; (first | rfl | simp only [go_sem, reduceCtorEq, Nat.reduceEqDiff, Nat.reduceLT, Nat.reduceLeDiff, Nat.reduceAdd, Nat.reduceMul, Nat.reduceSub, Nat.reduceBEq, ↓reduceIte, d3, ix2, shut_col]); simp only [go_sem, reduceCtorEq, Nat.reduceEqDiff, Nat.reduceLT, Nat.reduceLeDiff, Nat.reduceAdd, Nat.reduceMul, Nat.reduceSub, Nat.reduceBEq, ↓reduceIte, d3, ix2]) | refine k_of (by assumption) ?_)
                    refine tr_cond rfl (fun ht => ?_) (fun hf => ?_)
                    · repeat (first | (refine tr_region ?_; simp only [go_sem, reduceCtorEq, Nat.reduceEqDiff, Nat.reduceLT, Nat.reduceLeDiff, Nat.reduceAdd, Nat.reduceMul, Nat.reduceSub, Nat.reduceBEq, ↓reduceIte, ws2]) | refine k_of (by assumption) ?_ | refine tr_block ?_ | (refine tr_skip ?_; try simp only [ex_seq, ex_block]))
                      exact hK (j + 1) _ _ ⟨by omega, by omega, (hn2 h4).trans hjT⟩ ⟨⟨rfl, rfl, rfl, rfl, rfl, trivial⟩, Keep.refl _, rfl, rfl, Nat.le_refl _, Nat.le_refl _⟩ (by omega)
                    · cases hf
                  | false =>
                    rw [h4] at cM
                    have hv : runAt 1 s i = j := hjT.symm.trans (hs2 h4)
                    repeat (first | refine tr_seq_k fun _ _ => ?_ | (refine tr_draw (id := 10) follows 10000 [10] [0, 1, 2, 3, 4, 5, 6, 7, 8, 9, 10, 11] (by kernel_rfl) ?_; simp only [go_sem, reduceCtorEq, Nat.reduceEqDiff, Nat.reduceLT, Nat.reduceLeDiff, Nat.reduceAdd, Nat.reduceMul, Nat.reduceSub, Nat.reduceBEq, ↓reduceIte, d3, ix2]) | (refine call_of (cM) ?_ ?_; (first | rfl | simp only [go_sem, reduceCtorEq, Nat.reduceEqDiff, Nat.reduceLT, Nat.reduceLeDiff, Nat.reduceAdd, Nat.reduceMul, Nat.reduceSub, Nat.reduceBEq, ↓reduceIte, d3, ix2, shut_col]); simp only [go_sem, reduceCtorEq, Nat.reduceEqDiff, Nat.reduceLT, Nat.reduceLeDiff, Nat.reduceAdd, Nat.reduceMul, Nat.reduceSub, Nat.reduceBEq, ↓reduceIte, d3, ix2]) | refine k_of (by assumption) ?_)
                    refine tr_cond rfl (fun ht => ?_) (fun hf => ?_)
                    · cases ht
                    · rw [hv] at hT
                      have w5 : IntKind.i64.wrap ((j : Int) - (i : Nat)) = ((j - i : Nat) : Int) := by rw [wrap_in (by omega)]; omega
                      by_cases h5 : 255 < j - i
                      · rw [if_pos h5] at hT
                        have d5 : decide (((j - i : Nat) : Int) > 255) = true := decide_eq_true (by omega)
                        rw [hT] at hQ
                        repeat (first | refine tr_seq_k fun _ _ => ?_ | (refine tr_region ?_; simp only [go_sem, reduceCtorEq, Nat.reduceEqDiff, Nat.reduceLT, Nat.reduceLeDiff, Nat.reduceAdd, Nat.reduceMul, Nat.reduceSub, Nat.reduceBEq, ↓reduceIte, w5, d5]) | refine k_of (by assumption) ?_ | (refine tr_exit ?_; try simp only [ex_seq_exit, ex_block_exit, Nat.reduceEqDiff, if_true, if_false, ex_seq, ex_block, reduceCtorEq, ↓reduceIte]))
                        refine tr_cond rfl (fun ht => ?_) (fun hf => ?_)
                        · repeat (first | refine tr_seq_k fun _ _ => ?_ | (refine tr_region ?_; simp only [go_sem, reduceCtorEq, Nat.reduceEqDiff, Nat.reduceLT, Nat.reduceLeDiff, Nat.reduceAdd, Nat.reduceMul, Nat.reduceSub, Nat.reduceBEq, ↓reduceIte]) | refine k_of (by assumption) ?_ | (refine tr_ret ?_; try simp only [ex_seq_ret, ex_block_ret]))
                          refine (hQ _ _ [.agg [.v (.int .i64 0), .v (.string ⟨#[]⟩), .v (.int .i64 0)], iA 4] ?_ (fun m => rfl)).2 <;> simp only [go_sem, reduceCtorEq, Nat.reduceEqDiff, Nat.reduceLT, Nat.reduceLeDiff, Nat.reduceAdd, Nat.reduceMul, Nat.reduceSub, Nat.reduceBEq, ↓reduceIte, Try.f65]
                        · cases hf
                      · rw [if_neg h5] at hT
                        have d5 : decide (((j - i : Nat) : Int) > 255) = false := decide_eq_false (by omega)
                        have cu := cut_ab (s := s) hij hj
                        rw [hT] at hQ
                        repeat (first | refine tr_seq_k fun _ _ => ?_ | (refine tr_region ?_; simp only [go_sem, reduceCtorEq, Nat.reduceEqDiff, Nat.reduceLT, Nat.reduceLeDiff, Nat.reduceAdd, Nat.reduceMul, Nat.reduceSub, Nat.reduceBEq, ↓reduceIte, w5, d5]) | refine k_of (by assumption) ?_ | (refine tr_exit ?_; try simp only [ex_seq_exit, ex_block_exit, Nat.reduceEqDiff, if_true, if_false, ex_seq, ex_block, reduceCtorEq, ↓reduceIte]))
                        refine tr_cond rfl (fun ht => ?_) (fun hf => ?_)
                        · cases ht
                        · repeat (first | refine tr_seq_k fun _ _ => ?_ | (refine tr_region ?_; simp only [go_sem, reduceCtorEq, Nat.reduceEqDiff, Nat.reduceLT, Nat.reduceLeDiff, Nat.reduceAdd, Nat.reduceMul, Nat.reduceSub, Nat.reduceBEq, ↓reduceIte, cu]) | refine k_of (by assumption) ?_ | (refine tr_skip ?_; try simp only [ex_seq, ex_block]) | (refine tr_ret ?_; try simp only [ex_seq_ret, ex_block_ret]))
                          refine (hQ _ _ [.agg [.v (.int .i64 1), .v (.string (s.extract i j)), .v (.int .i64 i)], iA 0] ?_ (fun m => rfl)).2 <;> simp only [go_sem, reduceCtorEq, Nat.reduceEqDiff, Nat.reduceLT, Nat.reduceLeDiff, Nat.reduceAdd, Nat.reduceMul, Nat.reduceSub, Nat.reduceBEq, ↓reduceIte, Try.f65]
                · have d3 : decide ((j : Int) < (s.size : Nat)) = false := decide_eq_false (by omega)
                  have hv : runAt 1 s i = j := hjT.symm.trans (run_end hjl)
                  repeat (first | refine tr_seq_k fun _ _ => ?_ | (refine tr_draw (id := 10) follows 10000 [10] [0, 1, 2, 3, 4, 5, 6, 7, 8, 9, 10, 11] (by kernel_rfl) ?_; simp only [go_sem, reduceCtorEq, Nat.reduceEqDiff, Nat.reduceLT, Nat.reduceLeDiff, Nat.reduceAdd, Nat.reduceMul, Nat.reduceSub, Nat.reduceBEq, ↓reduceIte, d3]) | refine k_of (by assumption) ?_)
                  refine tr_cond rfl (fun ht => ?_) (fun hf => ?_)
                  · cases ht
                  · rw [hv] at hT
                    have w5 : IntKind.i64.wrap ((j : Int) - (i : Nat)) = ((j - i : Nat) : Int) := by rw [wrap_in (by omega)]; omega
                    by_cases h5 : 255 < j - i
                    · rw [if_pos h5] at hT
                      have d5 : decide (((j - i : Nat) : Int) > 255) = true := decide_eq_true (by omega)
                      rw [hT] at hQ
                      repeat (first | refine tr_seq_k fun _ _ => ?_ | (refine tr_region ?_; simp only [go_sem, reduceCtorEq, Nat.reduceEqDiff, Nat.reduceLT, Nat.reduceLeDiff, Nat.reduceAdd, Nat.reduceMul, Nat.reduceSub, Nat.reduceBEq, ↓reduceIte, w5, d5]) | refine k_of (by assumption) ?_ | (refine tr_exit ?_; try simp only [ex_seq_exit, ex_block_exit, Nat.reduceEqDiff, if_true, if_false, ex_seq, ex_block, reduceCtorEq, ↓reduceIte]))
                      refine tr_cond rfl (fun ht => ?_) (fun hf => ?_)
                      · repeat (first | refine tr_seq_k fun _ _ => ?_ | (refine tr_region ?_; simp only [go_sem, reduceCtorEq, Nat.reduceEqDiff, Nat.reduceLT, Nat.reduceLeDiff, Nat.reduceAdd, Nat.reduceMul, Nat.reduceSub, Nat.reduceBEq, ↓reduceIte]) | refine k_of (by assumption) ?_ | (refine tr_ret ?_; try simp only [ex_seq_ret, ex_block_ret]))
                        refine (hQ _ _ [.agg [.v (.int .i64 0), .v (.string ⟨#[]⟩), .v (.int .i64 0)], iA 4] ?_ (fun m => rfl)).2 <;> simp only [go_sem, reduceCtorEq, Nat.reduceEqDiff, Nat.reduceLT, Nat.reduceLeDiff, Nat.reduceAdd, Nat.reduceMul, Nat.reduceSub, Nat.reduceBEq, ↓reduceIte, Try.f65]
                      · cases hf
                    · rw [if_neg h5] at hT
                      have d5 : decide (((j - i : Nat) : Int) > 255) = false := decide_eq_false (by omega)
                      have cu := cut_ab (s := s) hij hj
                      rw [hT] at hQ
                      repeat (first | refine tr_seq_k fun _ _ => ?_ | (refine tr_region ?_; simp only [go_sem, reduceCtorEq, Nat.reduceEqDiff, Nat.reduceLT, Nat.reduceLeDiff, Nat.reduceAdd, Nat.reduceMul, Nat.reduceSub, Nat.reduceBEq, ↓reduceIte, w5, d5]) | refine k_of (by assumption) ?_ | (refine tr_exit ?_; try simp only [ex_seq_exit, ex_block_exit, Nat.reduceEqDiff, if_true, if_false, ex_seq, ex_block, reduceCtorEq, ↓reduceIte]))
                      refine tr_cond rfl (fun ht => ?_) (fun hf => ?_)
                      · cases ht
                      · repeat (first | refine tr_seq_k fun _ _ => ?_ | (refine tr_region ?_; simp only [go_sem, reduceCtorEq, Nat.reduceEqDiff, Nat.reduceLT, Nat.reduceLeDiff, Nat.reduceAdd, Nat.reduceMul, Nat.reduceSub, Nat.reduceBEq, ↓reduceIte, cu]) | refine k_of (by assumption) ?_ | (refine tr_skip ?_; try simp only [ex_seq, ex_block]) | (refine tr_ret ?_; try simp only [ex_seq_ret, ex_block_ret]))
                        refine (hQ _ _ [.agg [.v (.int .i64 1), .v (.string (s.extract i j)), .v (.int .i64 i)], iA 0] ?_ (fun m => rfl)).2 <;> simp only [go_sem, reduceCtorEq, Nat.reduceEqDiff, Nat.reduceLT, Nat.reduceLeDiff, Nat.reduceAdd, Nat.reduceMul, Nat.reduceSub, Nat.reduceBEq, ↓reduceIte, Try.f65]
              · cases hf
        | false =>
          rw [h4] at cD k0
          have hk := k0 rfl
          rw [hk, if_neg (by decide), if_pos rfl] at hT
          rw [hT]
          refine does_of' Try.func65 rfl (by kernel_rfl) rfl Try.ntmps65 rfl rfl fun Q hQ => ?_
          repeat (first | refine tr_seq_k fun _ _ => ?_ | (refine tr_region ?_; simp only [go_sem, reduceCtorEq, Nat.reduceEqDiff, Nat.reduceLT, Nat.reduceLeDiff, Nat.reduceAdd, Nat.reduceMul, Nat.reduceSub, Nat.reduceBEq, ↓reduceIte, ix]) | (refine call_of (cI) ?_ ?_; (first | rfl | simp only [go_sem, reduceCtorEq, Nat.reduceEqDiff, Nat.reduceLT, Nat.reduceLeDiff, Nat.reduceAdd, Nat.reduceMul, Nat.reduceSub, Nat.reduceBEq, ↓reduceIte, ix, shut_col]); simp only [go_sem, reduceCtorEq, Nat.reduceEqDiff, Nat.reduceLT, Nat.reduceLeDiff, Nat.reduceAdd, Nat.reduceMul, Nat.reduceSub, Nat.reduceBEq, ↓reduceIte, ix]) | refine k_of (by assumption) ?_ | refine tr_block ?_)
          refine tr_cond rfl (fun ht => ?_) (fun hf => ?_)
          · cases ht
          · repeat (first | refine tr_seq_k fun _ _ => ?_ | (refine tr_region ?_; simp only [go_sem, reduceCtorEq, Nat.reduceEqDiff, Nat.reduceLT, Nat.reduceLeDiff, Nat.reduceAdd, Nat.reduceMul, Nat.reduceSub, Nat.reduceBEq, ↓reduceIte, ix]) | (refine call_of (cG) ?_ ?_; (first | rfl | simp only [go_sem, reduceCtorEq, Nat.reduceEqDiff, Nat.reduceLT, Nat.reduceLeDiff, Nat.reduceAdd, Nat.reduceMul, Nat.reduceSub, Nat.reduceBEq, ↓reduceIte, ix, shut_col]); simp only [go_sem, reduceCtorEq, Nat.reduceEqDiff, Nat.reduceLT, Nat.reduceLeDiff, Nat.reduceAdd, Nat.reduceMul, Nat.reduceSub, Nat.reduceBEq, ↓reduceIte, ix]) | refine k_of (by assumption) ?_)
            refine tr_cond rfl (fun ht => ?_) (fun hf => ?_)
            · cases ht
            · repeat (first | refine tr_seq_k fun _ _ => ?_ | (refine tr_region ?_; simp only [go_sem, reduceCtorEq, Nat.reduceEqDiff, Nat.reduceLT, Nat.reduceLeDiff, Nat.reduceAdd, Nat.reduceMul, Nat.reduceSub, Nat.reduceBEq, ↓reduceIte, ix]) | (refine call_of (cS) ?_ ?_; (first | rfl | simp only [go_sem, reduceCtorEq, Nat.reduceEqDiff, Nat.reduceLT, Nat.reduceLeDiff, Nat.reduceAdd, Nat.reduceMul, Nat.reduceSub, Nat.reduceBEq, ↓reduceIte, ix, shut_col]); simp only [go_sem, reduceCtorEq, Nat.reduceEqDiff, Nat.reduceLT, Nat.reduceLeDiff, Nat.reduceAdd, Nat.reduceMul, Nat.reduceSub, Nat.reduceBEq, ↓reduceIte, ix]) | (refine call_of (cD) ?_ ?_; (first | rfl | simp only [go_sem, reduceCtorEq, Nat.reduceEqDiff, Nat.reduceLT, Nat.reduceLeDiff, Nat.reduceAdd, Nat.reduceMul, Nat.reduceSub, Nat.reduceBEq, ↓reduceIte, ix, shut_col]); simp only [go_sem, reduceCtorEq, Nat.reduceEqDiff, Nat.reduceLT, Nat.reduceLeDiff, Nat.reduceAdd, Nat.reduceMul, Nat.reduceSub, Nat.reduceBEq, ↓reduceIte, ix]) | refine k_of (by assumption) ?_)
              refine tr_cond rfl (fun ht => ?_) (fun hf => ?_)
              · cases ht
              · repeat (first | refine tr_seq_k fun _ _ => ?_ | (refine tr_region ?_; simp only [go_sem, reduceCtorEq, Nat.reduceEqDiff, Nat.reduceLT, Nat.reduceLeDiff, Nat.reduceAdd, Nat.reduceMul, Nat.reduceSub, Nat.reduceBEq, ↓reduceIte]) | refine k_of (by assumption) ?_ | (refine tr_ret ?_; try simp only [ex_seq_ret, ex_block_ret]))
                refine (hQ _ _ [.agg [.v (.int .i64 0), .v (.string ⟨#[]⟩), .v (.int .i64 0)], iA 3] ?_ (fun m => rfl)).2 <;> simp only [go_sem, reduceCtorEq, Nat.reduceEqDiff, Nat.reduceLT, Nat.reduceLeDiff, Nat.reduceAdd, Nat.reduceMul, Nat.reduceSub, Nat.reduceBEq, ↓reduceIte, Try.f65]
end Go.Proofs.Ytinbfakpjnnagaa
namespace Go.Proofs.Ytinbfakpjnnagaa
open Go.RowKit Go.Vs Go.Vs.Ab
set_option maxRecDepth 100000
set_option maxHeartbeats 4000000
theorem info_tk : info3 Try.prog 112 = some (3, 32) := by simp only [info3, sz112, by112, ze112]; rfl
theorem appTk (hp : List Blk) (l : List Tk) (x : Tk) (hl : l.length ≤ 1000000) : aAppend Try.prog ⟨hp, colH 112 3 l⟩ 77 (colA tkC 0 l) (.c (.sl true 1 [.v (.int .i64 x.kind), .v (.string x.text), .v (.int .i64 x.at_)])) = some (colA tkC 0 (l ++ [x]), ⟨hp, colH 112 3 (l ++ [x])⟩) :=
  app_col0 (P := Try.prog) tkC (size := 3) (fun _ => rfl) Try.underlying77 info_tk (hp := hp) (l := l) (x := x) (ex := true) (Nat.le_trans (show _ ≤ 1000001 by omega) (by decide)) (by omega)
theorem bldTk (x : Tk) : aBuildSlice Try.prog 77 1 [(0, .agg [.v (.int .i64 x.kind), .v (.string x.text), .v (.int .i64 x.at_)])] = some [.v (.int .i64 x.kind), .v (.string x.text), .v (.int .i64 x.at_)] := build1 Try.underlying77 sz112 ze112 (by decide) (by decide) (by decide) rfl rfl
abbrev slK (ex : Bool) (l : List Tk) : AV := slR tkC ex l
theorem toksF_succ (s : ByteArray) (f i : Nat) (out : List Tk) : toksF s (f + 1) i out = if i < s.size then
      if (tokAt s i).2 ≠ 0 then (out, (i : Int), (tokAt s i).2)
      else toksF s f (skipAt s (i + (tokAt s i).1.text.size)) (out ++ [(tokAt s i).1])
    else (out, 0, 0) := rfl
theorem tokens_does (s : ByteArray) : Does Try.prog 52 [sA s] (fun m => (.tup [slK (toks s).1.isEmpty (toks s).1, iA (toks s).2.1, iA (toks s).2.2], m)) := by
  refine Does.shut2 (e := 112) (size := 3) rfl ?_
  by_cases hz : 65536 < s.size
  · have d1 : decide ((s.size : Int) > 65536) = true := decide_eq_true (by omega)
    have hT : toks s = ([], 65536, 4) := if_pos hz
    rw [hT]
    refine does_of' Try.func52 rfl (by kernel_rfl) rfl Try.ntmps52 rfl rfl fun Q hQ => ?_
    repeat (first | refine tr_seq_k fun _ _ => ?_ | (refine tr_region ?_; simp only [go_sem, reduceCtorEq, Nat.reduceEqDiff, Nat.reduceLT, Nat.reduceLeDiff, Nat.reduceAdd, Nat.reduceMul, Nat.reduceSub, Nat.reduceBEq, ↓reduceIte, d1]) | refine k_of (by assumption) ?_)
    refine tr_cond rfl (fun ht => ?_) (fun hf => ?_)
    · repeat (first | refine tr_seq_k fun _ _ => ?_ | (refine tr_region ?_; simp only [go_sem, reduceCtorEq, Nat.reduceEqDiff, Nat.reduceLT, Nat.reduceLeDiff, Nat.reduceAdd, Nat.reduceMul, Nat.reduceSub, Nat.reduceBEq, ↓reduceIte]) | refine k_of (by assumption) ?_ | (refine tr_ret ?_; try simp only [ex_seq_ret, ex_block_ret]))
      refine (hQ _ _ [.c (.sl true 0 []), iA 65536, iA 4] ?_ (fun m => ret_col_tup tkC 112 3 [] _ m [iA 65536, iA 4] rfl)).2 <;> simp only [go_sem, reduceCtorEq, Nat.reduceEqDiff, Nat.reduceLT, Nat.reduceLeDiff, Nat.reduceAdd, Nat.reduceMul, Nat.reduceSub, Nat.reduceBEq, ↓reduceIte, Try.f52]
    · cases hf
  · have d1 : decide ((s.size : Int) > 65536) = false := decide_eq_false (by omega)
    have hT : toks s = toksF s (s.size + 1) (skipAt s 0) [] := if_neg hz
    have cS := skip_does s 0 (Nat.zero_le _) (by omega)
    have h0 := skipAt_le (s := s) (Nat.zero_le _)
    obtain ⟨T, hTT⟩ : ∃ T, T = toks s := ⟨_, rfl⟩
    rw [← hTT] at hT
    rw [← hTT]
    refine does_of' Try.func52 rfl (by kernel_rfl) rfl Try.ntmps52 rfl rfl fun Q hQ => ?_
    repeat (first | refine tr_seq_k fun _ _ => ?_ | (refine tr_region ?_; simp only [go_sem, reduceCtorEq, Nat.reduceEqDiff, Nat.reduceLT, Nat.reduceLeDiff, Nat.reduceAdd, Nat.reduceMul, Nat.reduceSub, Nat.reduceBEq, ↓reduceIte, d1]) | refine k_of (by assumption) ?_)
    refine tr_cond rfl (fun ht => ?_) (fun hf => ?_)
    · cases ht
    · repeat (first | refine tr_seq_k fun _ _ => ?_ | (refine tr_region ?_; simp only [go_sem, reduceCtorEq, Nat.reduceEqDiff, Nat.reduceLT, Nat.reduceLeDiff, Nat.reduceAdd, Nat.reduceMul, Nat.reduceSub, Nat.reduceBEq, ↓reduceIte]) | (refine call_of (cS) ?_ ?_; (first | rfl | simp only [go_sem, reduceCtorEq, Nat.reduceEqDiff, Nat.reduceLT, Nat.reduceLeDiff, Nat.reduceAdd, Nat.reduceMul, Nat.reduceSub, Nat.reduceBEq, ↓reduceIte, shut_col]); simp only [go_sem, reduceCtorEq, Nat.reduceEqDiff, Nat.reduceLT, Nat.reduceLeDiff, Nat.reduceAdd, Nat.reduceMul, Nat.reduceSub, Nat.reduceBEq, ↓reduceIte]) | refine k_of (by assumption) ?_ | refine tr_block ?_ | (refine tr_skip ?_; try simp only [ex_seq, ex_block]))
      refine tr_loop_k (σ := Nat × Nat × List Tk) (fun q => [(0, sA s), (5, colA tkC 0 q.2.2), (6, iA q.2.1)]) (fun q => ⟨[], colH 112 3 q.2.2⟩) (fun q => toksF s q.1 q.2.1 q.2.2 = T ∧ s.size - q.2.1 < q.1 ∧ q.2.1 ≤ s.size ∧ q.2.2.length + q.1 ≤ 70000) (fun q => q.1) (s.size + 1, skipAt s 0, []) ⟨hT.symm, by dsimp only; omega, h0, by simp only [List.length_nil]; omega⟩ ⟨rfl, rfl, rfl, trivial⟩ rfl ?_
      rintro ⟨f, i, out⟩ ⟨hF, hf0, hi, hlen⟩ K hK
      dsimp only at hF hf0 hi hlen ⊢
      obtain ⟨f, rfl⟩ : ∃ f', f = f' + 1 := ⟨f - 1, by omega⟩
      rw [toksF_succ] at hF
      by_cases hil : i < s.size
      · rw [if_pos hil] at hF
        have d2 : decide ((i : Int) < (s.size : Nat)) = true := decide_eq_true (by omega)
        have cT := token_does s i hil (by omega)
        have hts := tokAt_size hil
        generalize tokAt s i = te at *
        obtain ⟨t, e⟩ := te
        dsimp only at *
        by_cases he : e = 0
        · obtain ⟨hp, hq, hr⟩ := hts he
          rw [if_neg (by omega)] at hF
          have d3 : decide (e = 0) = true := decide_eq_true he
          have b1 := bldTk t
          have ap := fun hp => appTk hp out t (by omega)
          have wa : IntKind.i64.wrap ((i : Int) + (t.text.size : Nat)) = ((i + t.text.size : Nat) : Int) := by rw [wrap_in (by omega)]; omega
          have cS2 := skip_does s (i + t.text.size) hq (by omega)
          have hk1 := skipAt_le (s := s) hq
          have hk2 := skipAt_ge s (i + t.text.size)
          generalize skipAt s (i + t.text.size) = i2 at *
          repeat (first | refine tr_seq_k fun _ _ => ?_ | (refine tr_region ?_; simp only [go_sem, reduceCtorEq, Nat.reduceEqDiff, Nat.reduceLT, Nat.reduceLeDiff, Nat.reduceAdd, Nat.reduceMul, Nat.reduceSub, Nat.reduceBEq, ↓reduceIte, d2]) | refine k_of (by assumption) ?_)
          refine tr_cond rfl (fun ht => ?_) (fun hf => ?_)
          · repeat (first | refine tr_seq_k fun _ _ => ?_ | (refine tr_region ?_; simp only [go_sem, reduceCtorEq, Nat.reduceEqDiff, Nat.reduceLT, Nat.reduceLeDiff, Nat.reduceAdd, Nat.reduceMul, Nat.reduceSub, Nat.reduceBEq, ↓reduceIte, d3]) | (refine call_of (cT) ?_ ?_; (first | rfl | simp only [go_sem, reduceCtorEq, Nat.reduceEqDiff, Nat.reduceLT, Nat.reduceLeDiff, Nat.reduceAdd, Nat.reduceMul, Nat.reduceSub, Nat.reduceBEq, ↓reduceIte, d3, shut_col]); simp only [go_sem, reduceCtorEq, Nat.reduceEqDiff, Nat.reduceLT, Nat.reduceLeDiff, Nat.reduceAdd, Nat.reduceMul, Nat.reduceSub, Nat.reduceBEq, ↓reduceIte, d3]) | refine k_of (by assumption) ?_ | refine tr_block ?_ | (refine tr_skip ?_; try simp only [ex_seq, ex_block]))
            refine tr_cond rfl (fun ht => ?_) (fun hf => ?_)
            · cases ht
            · repeat (first | refine tr_seq_k fun _ _ => ?_ | (refine tr_region ?_; simp only [go_sem, reduceCtorEq, Nat.reduceEqDiff, Nat.reduceLT, Nat.reduceLeDiff, Nat.reduceAdd, Nat.reduceMul, Nat.reduceSub, Nat.reduceBEq, ↓reduceIte, b1, one_max, ap, wa]) | (refine call_of (cS2) ?_ ?_; (first | rfl | simp only [go_sem, reduceCtorEq, Nat.reduceEqDiff, Nat.reduceLT, Nat.reduceLeDiff, Nat.reduceAdd, Nat.reduceMul, Nat.reduceSub, Nat.reduceBEq, ↓reduceIte, b1, one_max, ap, wa, shut_col]); simp only [go_sem, reduceCtorEq, Nat.reduceEqDiff, Nat.reduceLT, Nat.reduceLeDiff, Nat.reduceAdd, Nat.reduceMul, Nat.reduceSub, Nat.reduceBEq, ↓reduceIte, b1, one_max, ap, wa]) | refine k_of (by assumption) ?_ | (refine tr_skip ?_; try simp only [ex_seq, ex_block]))
              exact hK (f, i2, out ++ [t]) _ _ ⟨hF, by dsimp only; omega, hk1, by simp only [List.length_append, List.length_cons, List.length_nil]; omega⟩ ⟨⟨rfl, rfl, rfl, trivial⟩, Keep.of (eh := [_]) (ew := []) rfl (List.append_nil _).symm, by simp only [lowF, low_col]; rfl, rfl, Nat.le_refl _, Nat.zero_le _⟩ (by dsimp only; omega)
          · cases hf
        · rw [if_pos (by omega)] at hF
          have d3 : decide (e = 0) = false := decide_eq_false he
          repeat (first | refine tr_seq_k fun _ _ => ?_ | (refine tr_region ?_; simp only [go_sem, reduceCtorEq, Nat.reduceEqDiff, Nat.reduceLT, Nat.reduceLeDiff, Nat.reduceAdd, Nat.reduceMul, Nat.reduceSub, Nat.reduceBEq, ↓reduceIte, d2]) | refine k_of (by assumption) ?_)
          refine tr_cond rfl (fun ht => ?_) (fun hf => ?_)
          · repeat (first | refine tr_seq_k fun _ _ => ?_ | (refine tr_region ?_; simp only [go_sem, reduceCtorEq, Nat.reduceEqDiff, Nat.reduceLT, Nat.reduceLeDiff, Nat.reduceAdd, Nat.reduceMul, Nat.reduceSub, Nat.reduceBEq, ↓reduceIte, d3]) | (refine call_of (cT) ?_ ?_; (first | rfl | simp only [go_sem, reduceCtorEq, Nat.reduceEqDiff, Nat.reduceLT, Nat.reduceLeDiff, Nat.reduceAdd, Nat.reduceMul, Nat.reduceSub, Nat.reduceBEq, ↓reduceIte, d3, shut_col]); simp only [go_sem, reduceCtorEq, Nat.reduceEqDiff, Nat.reduceLT, Nat.reduceLeDiff, Nat.reduceAdd, Nat.reduceMul, Nat.reduceSub, Nat.reduceBEq, ↓reduceIte, d3]) | refine k_of (by assumption) ?_ | refine tr_block ?_ | (refine tr_skip ?_; try simp only [ex_seq, ex_block]))
            refine tr_cond rfl (fun ht => ?_) (fun hf => ?_)
            · repeat (first | refine tr_seq_k fun _ _ => ?_ | (refine tr_region ?_; simp only [go_sem, reduceCtorEq, Nat.reduceEqDiff, Nat.reduceLT, Nat.reduceLeDiff, Nat.reduceAdd, Nat.reduceMul, Nat.reduceSub, Nat.reduceBEq, ↓reduceIte]) | refine k_of (by assumption) ?_ | (refine tr_ret ?_; try simp only [ex_seq_ret, ex_block_ret]))
              refine (hQ _ _ [colA tkC 0 out, iA i, iA e] ?_ (fun m => by rw [← hF]; exact ret_col_tup tkC 112 3 out _ m [iA i, iA e] rfl)).2 <;> simp only [go_sem, reduceCtorEq, Nat.reduceEqDiff, Nat.reduceLT, Nat.reduceLeDiff, Nat.reduceAdd, Nat.reduceMul, Nat.reduceSub, Nat.reduceBEq, ↓reduceIte, Try.f52]
            · cases hf
          · cases hf
      · rw [if_neg hil] at hF
        have d2 : decide ((i : Int) < (s.size : Nat)) = false := decide_eq_false (by omega)
        repeat (first | refine tr_seq_k fun _ _ => ?_ | (refine tr_region ?_; simp only [go_sem, reduceCtorEq, Nat.reduceEqDiff, Nat.reduceLT, Nat.reduceLeDiff, Nat.reduceAdd, Nat.reduceMul, Nat.reduceSub, Nat.reduceBEq, ↓reduceIte, d2]) | refine k_of (by assumption) ?_)
        refine tr_cond rfl (fun ht => ?_) (fun hf => ?_)
        · cases ht
        · repeat (first | refine tr_seq_k fun _ _ => ?_ | (refine tr_region ?_; simp only [go_sem, reduceCtorEq, Nat.reduceEqDiff, Nat.reduceLT, Nat.reduceLeDiff, Nat.reduceAdd, Nat.reduceMul, Nat.reduceSub, Nat.reduceBEq, ↓reduceIte]) | refine k_of (by assumption) ?_ | (refine tr_exit ?_; try simp only [ex_seq_exit, ex_block_exit, Nat.reduceEqDiff, if_true, if_false, ex_seq, ex_block, reduceCtorEq, ↓reduceIte]) | (refine tr_ret ?_; try simp only [ex_seq_ret, ex_block_ret]))
          refine (hQ _ _ [colA tkC 0 out, iA 0, iA 0] ?_ (fun m => by rw [← hF]; exact ret_col_tup tkC 112 3 out _ m [iA 0, iA 0] rfl)).2 <;> simp only [go_sem, reduceCtorEq, Nat.reduceEqDiff, Nat.reduceLT, Nat.reduceLeDiff, Nat.reduceAdd, Nat.reduceMul, Nat.reduceSub, Nat.reduceBEq, ↓reduceIte, Try.f52]
theorem allK_does (s : ByteArray) : Does Try.prog 32 [sA s] (fun m => (.tup [slK (toksAll s).1.isEmpty (toksAll s).1, iA (toksAll s).2.1, iA (toksAll s).2.2], m)) := by
  have cT := tokens_does s
  unfold toksAll
  generalize toks s = T at *
  obtain ⟨l, p, e⟩ := T
  dsimp only at *
  by_cases he : e = 0
  · have d3 : decide (e = 0) = true := decide_eq_true he
    rw [if_neg (by omega)]
    refine does_of' Try.func32 rfl (by kernel_rfl) rfl Try.ntmps32 rfl rfl fun Q hQ => ?_
    repeat (first | refine tr_seq_k fun _ _ => ?_ | (refine tr_region ?_; simp only [go_sem, reduceCtorEq, Nat.reduceEqDiff, Nat.reduceLT, Nat.reduceLeDiff, Nat.reduceAdd, Nat.reduceMul, Nat.reduceSub, Nat.reduceBEq, ↓reduceIte, d3]) | (refine call_of (cT) ?_ ?_; (first | rfl | simp only [go_sem, reduceCtorEq, Nat.reduceEqDiff, Nat.reduceLT, Nat.reduceLeDiff, Nat.reduceAdd, Nat.reduceMul, Nat.reduceSub, Nat.reduceBEq, ↓reduceIte, d3, shut_col]); simp only [go_sem, reduceCtorEq, Nat.reduceEqDiff, Nat.reduceLT, Nat.reduceLeDiff, Nat.reduceAdd, Nat.reduceMul, Nat.reduceSub, Nat.reduceBEq, ↓reduceIte, d3]) | refine k_of (by assumption) ?_)
    refine tr_cond rfl (fun ht => ?_) (fun hf => ?_)
    · cases ht
    · repeat (first | refine tr_seq_k fun _ _ => ?_ | (refine tr_region ?_; simp only [go_sem, reduceCtorEq, Nat.reduceEqDiff, Nat.reduceLT, Nat.reduceLeDiff, Nat.reduceAdd, Nat.reduceMul, Nat.reduceSub, Nat.reduceBEq, ↓reduceIte]) | refine k_of (by assumption) ?_ | (refine tr_skip ?_; try simp only [ex_seq, ex_block]) | (refine tr_ret ?_; try simp only [ex_seq_ret, ex_block_ret]))
      refine (hQ _ _ [slK l.isEmpty l, iA 0, iA 0] ?_ (fun m => rfl)).2 <;> simp only [go_sem, reduceCtorEq, Nat.reduceEqDiff, Nat.reduceLT, Nat.reduceLeDiff, Nat.reduceAdd, Nat.reduceMul, Nat.reduceSub, Nat.reduceBEq, ↓reduceIte, Try.f32]
  · have d3 : decide (e = 0) = false := decide_eq_false he
    rw [if_pos (by omega)]
    refine does_of' Try.func32 rfl (by kernel_rfl) rfl Try.ntmps32 rfl rfl fun Q hQ => ?_
    repeat (first | refine tr_seq_k fun _ _ => ?_ | (refine tr_region ?_; simp only [go_sem, reduceCtorEq, Nat.reduceEqDiff, Nat.reduceLT, Nat.reduceLeDiff, Nat.reduceAdd, Nat.reduceMul, Nat.reduceSub, Nat.reduceBEq, ↓reduceIte, d3]) | (refine call_of (cT) ?_ ?_; (first | rfl | simp only [go_sem, reduceCtorEq, Nat.reduceEqDiff, Nat.reduceLT, Nat.reduceLeDiff, Nat.reduceAdd, Nat.reduceMul, Nat.reduceSub, Nat.reduceBEq, ↓reduceIte, d3, shut_col]); simp only [go_sem, reduceCtorEq, Nat.reduceEqDiff, Nat.reduceLT, Nat.reduceLeDiff, Nat.reduceAdd, Nat.reduceMul, Nat.reduceSub, Nat.reduceBEq, ↓reduceIte, d3]) | refine k_of (by assumption) ?_)
    refine tr_cond rfl (fun ht => ?_) (fun hf => ?_)
    · repeat (first | refine tr_seq_k fun _ _ => ?_ | (refine tr_region ?_; simp only [go_sem, reduceCtorEq, Nat.reduceEqDiff, Nat.reduceLT, Nat.reduceLeDiff, Nat.reduceAdd, Nat.reduceMul, Nat.reduceSub, Nat.reduceBEq, ↓reduceIte]) | refine k_of (by assumption) ?_ | (refine tr_ret ?_; try simp only [ex_seq_ret, ex_block_ret]))
      refine (hQ _ _ [.c (.sl true 0 []), iA p, iA e] ?_ (fun m => rfl)).2 <;> simp only [go_sem, reduceCtorEq, Nat.reduceEqDiff, Nat.reduceLT, Nat.reduceLeDiff, Nat.reduceAdd, Nat.reduceMul, Nat.reduceSub, Nat.reduceBEq, ↓reduceIte, Try.f32]
    · cases hf
end Go.Proofs.Ytinbfakpjnnagaa
namespace Go.Vs
open Go.Vs.Ab
structure Rs where
  i : Nat
  at_ : Int
  e : Int
  deriving DecidableEq
def Rs.adv (r : Rs) : Rs := ⟨r.i + 1, r.at_, r.e⟩
def Rs.fail (L : List Tk) (n : Int) (r : Rs) (e : Int) (j : Nat) : Rs := if r.e = 0 then ⟨r.i, (match L[j]? with | some t => t.at_ | none => n), e⟩ else r
def isT (L : List Tk) (r : Rs) (s : ByteArray) : Bool := decide (r.e = 0) && (match L[r.i]? with | some t => decide (t.text = s) | none => false)
def maybeR (L : List Tk) (r : Rs) (s : ByteArray) : Rs := if isT L r s then r.adv else r
def mustT (L : List Tk) (n : Int) (r : Rs) (s : ByteArray) : Rs := if isT L r s then r.adv else r.fail L n 3 r.i
def pnum (s : ByteArray) : Bool := (lts s).all digB && (decide (s ≠ ⟨#[]⟩) && (decide ((s.size : Int) ≤ 7) && (decide ((s.size : Int) = 1) || headB (fun c => !decide ((c.toNat : Int) = 48)) s)))
def mayT (sort : Int) (s : ByteArray) : Bool := if sort = 0 then pprincipal s else if sort = 1 then pprincipal s else if sort = 2 then pconstant s || pvariable s else pnum s
def nextOk (L : List Tk) (r : Rs) (sort : Int) : Bool := decide (r.e = 0) && (match L[r.i]? with | some t => mayT sort t.text | none => false)
def nextS (L : List Tk) (r : Rs) (sort : Int) : ByteArray := if nextOk L r sort then (match L[r.i]? with | some t => t.text | none => ⟨#[]⟩) else ⟨#[]⟩
def nextR (L : List Tk) (n : Int) (r : Rs) (sort : Int) : Rs := if nextOk L r sort then r.adv else r.fail L n 3 r.i
def numK (l : List UInt8) : Int := l.foldl (fun a c => 10 * a + ((c.toNat : Int) - 48)) 0
def numB (s : ByteArray) : Int := numK (lts s)
/-! ### atoms -/
def mkAt (says pred : ByteArray) (ts : List Tm) : Atm := ⟨says, pred, ts.length, ts.getD 0 noT, ts.getD 1 noT, ts.getD 2 noT, ts.getD 3 noT⟩
abbrev kOpen : ByteArray := ⟨#[40]⟩
abbrev kShut : ByteArray := ⟨#[41]⟩
abbrev kCom : ByteArray := ⟨#[44]⟩
abbrev kDot : ByteArray := ⟨#[46]⟩
abbrev kCol : ByteArray := ⟨#[58]⟩
abbrev kSl : ByteArray := ⟨#[47]⟩
abbrev kSays : ByteArray := ⟨#[115, 97, 121, 115]⟩
abbrev kIf : ByteArray := ⟨#[105, 102]⟩
abbrev kCan : ByteArray := ⟨#[99, 97, 110, 115, 97, 121]⟩
def saidL (L : List Tk) (n : Int) : Nat → Rs → List Tm → Rs × List Tm
  | 0, r, ts => (r, ts)
  | f + 1, r, ts =>
    if r.e = 0 then
      if (nextR L n r 2).e = 0 then
        if ts.length = 4 then ((nextR L n r 2).fail L n 4 r.i, ts)
        else if isT L (nextR L n r 2) kCom then saidL L n f (nextR L n r 2).adv (ts ++ [⟨pvariable (nextS L r 2), nextS L r 2⟩])
        else (nextR L n r 2, ts ++ [⟨pvariable (nextS L r 2), nextS L r 2⟩])
      else (nextR L n r 2, ts)
    else (r, ts)
def saidF (L : List Tk) (n : Int) (r : Rs) (says : ByteArray) : Rs × Atm :=
  if isT L (nextR L n r 1) kOpen then (mustT L n (saidL L n 5 (nextR L n r 1).adv []).1 kShut, mkAt says (nextS L r 1) (saidL L n 5 (nextR L n r 1).adv []).2)
  else (nextR L n r 1, mkAt says (nextS L r 1) [])
def atomF (L : List Tk) (n : Int) (r : Rs) : Rs × Atm := saidF L n (mustT L n (nextR L n r 0) kSays) (nextS L r 0)
def bodyL (L : List Tk) (n : Int) : Nat → Rs → List Atm → Rs × List Atm
  | 0, r, out => (r, out)
  | f + 1, r, out =>
    if r.e = 0 then
      if isT L (atomF L n r).1 kCom then bodyL L n f (atomF L n r).1.adv (out ++ [(atomF L n r).2])
      else ((atomF L n r).1, out ++ [(atomF L n r).2])
    else (r, out)
def bodyF (L : List Tk) (n : Int) (r : Rs) : Rs × List Atm := if isT L r kIf then bodyL L n (L.length + 1) r.adv [] else (r, [])
def clearL (L : List Tk) (n : Int) : Nat → Rs → List ByteArray → Rs × List ByteArray
  | 0, r, out => (r, out)
  | f + 1, r, out =>
    if r.e = 0 then
      if isT L (nextR L n r 0) kCom then clearL L n f (nextR L n r 0).adv (out ++ [nextS L r 0])
      else (nextR L n r 0, out ++ [nextS L r 0])
    else (r, out)
def clearF (L : List Tk) (n : Int) (r : Rs) : Rs × ByteArray × List ByteArray :=
  ((clearL L n (L.length + 1) (mustT L n (nextR L n r 0) kCol) []).1, nextS L r 0, (clearL L n (L.length + 1) (mustT L n (nextR L n r 0) kCol) []).2)
/-! ### a reader never goes back, nor beyond the tokens; an error stays -/
theorem fail_i (L : List Tk) (n : Int) (r : Rs) (e : Int) (j : Nat) : (r.fail L n e j).i = r.i := by
  unfold Rs.fail
  split <;> rfl
theorem isT_lt {L : List Tk} {r : Rs} {s : ByteArray} (h : isT L r s = true) : r.e = 0 ∧ r.i < L.length := by
  unfold isT at h
  rw [Bool.and_eq_true] at h
  refine ⟨of_decide_eq_true h.1, ?_⟩
  cases hl : L[r.i]? with
  | none => rw [hl] at h; cases h.2
  | some t => exact (List.getElem?_eq_some_iff.1 hl).1
theorem nextOk_lt {L : List Tk} {r : Rs} {s : Int} (h : nextOk L r s = true) : r.e = 0 ∧ r.i < L.length := by
  unfold nextOk at h
  rw [Bool.and_eq_true] at h
  refine ⟨of_decide_eq_true h.1, ?_⟩
  cases hl : L[r.i]? with
  | none => rw [hl] at h; cases h.2
  | some t => exact (List.getElem?_eq_some_iff.1 hl).1
theorem must_i {L : List Tk} {n : Int} {r : Rs} {s : ByteArray} : r.i ≤ (mustT L n r s).i ∧ (r.i ≤ L.length → (mustT L n r s).i ≤ L.length) := by
  unfold mustT
  split
  · rename_i h
    have := isT_lt h
    exact ⟨Nat.le_succ _, fun _ => this.2⟩
  · rw [fail_i]
    exact ⟨Nat.le_refl _, id⟩
theorem next_i {L : List Tk} {n : Int} {r : Rs} {s : Int} : r.i ≤ (nextR L n r s).i ∧ (r.i ≤ L.length → (nextR L n r s).i ≤ L.length) := by
  unfold nextR
  split
  · rename_i h
    have := nextOk_lt h
    exact ⟨Nat.le_succ _, fun _ => this.2⟩
  · rw [fail_i]
    exact ⟨Nat.le_refl _, id⟩
theorem saidL_i (L : List Tk) (n : Int) : ∀ (f : Nat) (r : Rs) (ts : List Tm), r.i ≤ (saidL L n f r ts).1.i ∧ (r.i ≤ L.length → (saidL L n f r ts).1.i ≤ L.length)
  | 0, r, ts => ⟨Nat.le_refl _, id⟩
  | f + 1, r, ts => by
    obtain ⟨h1, h2⟩ := next_i (L := L) (n := n) (r := r) (s := 2)
    unfold saidL
    split
    · split
      · split
        · rw [fail_i]
          exact ⟨h1, h2⟩
        · split
          · rename_i hc
            have h3 := (isT_lt hc).2
            obtain ⟨h4, h5⟩ := saidL_i L n f (nextR L n r 2).adv (ts ++ [⟨pvariable (nextS L r 2), nextS L r 2⟩])
            have e : (nextR L n r 2).adv.i = (nextR L n r 2).i + 1 := rfl
            rw [e] at h4 h5
            exact ⟨by omega, fun _ => h5 h3⟩
          · exact ⟨h1, h2⟩
      · exact ⟨h1, h2⟩
    · exact ⟨Nat.le_refl _, id⟩
theorem said_i {L : List Tk} {n : Int} {r : Rs} {s : ByteArray} : r.i ≤ (saidF L n r s).1.i ∧ (r.i ≤ L.length → (saidF L n r s).1.i ≤ L.length) := by
  obtain ⟨h1, h2⟩ := next_i (L := L) (n := n) (r := r) (s := 1)
  unfold saidF
  split
  · rename_i hc
    have h3 := (isT_lt hc).2
    obtain ⟨h4, h5⟩ := saidL_i L n 5 (nextR L n r 1).adv []
    have e : (nextR L n r 1).adv.i = (nextR L n r 1).i + 1 := rfl
    rw [e] at h4 h5
    obtain ⟨h6, h7⟩ := must_i (L := L) (n := n) (r := (saidL L n 5 (nextR L n r 1).adv []).1) (s := kShut)
    exact ⟨by dsimp only; omega, fun _ => h7 (h5 h3)⟩
  · exact ⟨h1, h2⟩
theorem atom_i {L : List Tk} {n : Int} {r : Rs} : r.i ≤ (atomF L n r).1.i ∧ (r.i ≤ L.length → (atomF L n r).1.i ≤ L.length) := by
  obtain ⟨h1, h2⟩ := next_i (L := L) (n := n) (r := r) (s := 0)
  obtain ⟨h3, h4⟩ := must_i (L := L) (n := n) (r := nextR L n r 0) (s := kSays)
  obtain ⟨h5, h6⟩ := said_i (L := L) (n := n) (r := mustT L n (nextR L n r 0) kSays) (s := nextS L r 0)
  exact ⟨by unfold atomF; omega, fun h => h6 (h4 (h2 h))⟩
theorem bodyL_i (L : List Tk) (n : Int) : ∀ (f : Nat) (r : Rs) (out : List Atm), r.i ≤ (bodyL L n f r out).1.i ∧ (r.i ≤ L.length → (bodyL L n f r out).1.i ≤ L.length)
  | 0, r, out => ⟨Nat.le_refl _, id⟩
  | f + 1, r, out => by
    obtain ⟨h1, h2⟩ := atom_i (L := L) (n := n) (r := r)
    unfold bodyL
    split
    · split
      · rename_i hc
        have h3 := (isT_lt hc).2
        obtain ⟨h4, h5⟩ := bodyL_i L n f (atomF L n r).1.adv (out ++ [(atomF L n r).2])
        have e : (atomF L n r).1.adv.i = (atomF L n r).1.i + 1 := rfl
        rw [e] at h4 h5
        exact ⟨by omega, fun _ => h5 h3⟩
      · exact ⟨h1, h2⟩
    · exact ⟨Nat.le_refl _, id⟩
theorem body_i {L : List Tk} {n : Int} {r : Rs} : r.i ≤ (bodyF L n r).1.i ∧ (r.i ≤ L.length → (bodyF L n r).1.i ≤ L.length) := by
  unfold bodyF
  split
  · rename_i hc
    have h3 := (isT_lt hc).2
    obtain ⟨h4, h5⟩ := bodyL_i L n (L.length + 1) r.adv []
    have e : r.adv.i = r.i + 1 := rfl
    rw [e] at h4 h5
    exact ⟨by omega, fun _ => h5 h3⟩
  · exact ⟨Nat.le_refl _, id⟩
theorem clearL_i (L : List Tk) (n : Int) : ∀ (f : Nat) (r : Rs) (out : List ByteArray), r.i ≤ (clearL L n f r out).1.i ∧ (r.i ≤ L.length → (clearL L n f r out).1.i ≤ L.length)
  | 0, r, out => ⟨Nat.le_refl _, id⟩
  | f + 1, r, out => by
    obtain ⟨h1, h2⟩ := next_i (L := L) (n := n) (r := r) (s := 0)
    unfold clearL
    split
    · split
      · rename_i hc
        have h3 := (isT_lt hc).2
        obtain ⟨h4, h5⟩ := clearL_i L n f (nextR L n r 0).adv (out ++ [nextS L r 0])
        have e : (nextR L n r 0).adv.i = (nextR L n r 0).i + 1 := rfl
        rw [e] at h4 h5
        exact ⟨by omega, fun _ => h5 h3⟩
      · exact ⟨h1, h2⟩
    · exact ⟨Nat.le_refl _, id⟩
theorem clear_i {L : List Tk} {n : Int} {r : Rs} : r.i ≤ (clearF L n r).1.i ∧ (r.i ≤ L.length → (clearF L n r).1.i ≤ L.length) := by
  obtain ⟨h1, h2⟩ := next_i (L := L) (n := n) (r := r) (s := 0)
  obtain ⟨h3, h4⟩ := must_i (L := L) (n := n) (r := nextR L n r 0) (s := kCol)
  obtain ⟨h5, h6⟩ := clearL_i L n (L.length + 1) (mustT L n (nextR L n r 0) kCol) []
  exact ⟨by unfold clearF; dsimp only; omega, fun h => h6 (h4 (h2 h))⟩
end Go.Vs
namespace Go.Vs
def onceR (L : List Tk) (n : Int) (r : Rs) (was : Bool) : Rs := if was then r.fail L n 5 (r.i - 1) else r
theorem numK_snoc (l : List UInt8) (c : UInt8) : numK (l ++ [c]) = 10 * numK l + ((c.toNat : Int) - 48) := by
  unfold numK
  rw [List.foldl_append]
  rfl
theorem numK_take {l : List UInt8} (h : ∀ c ∈ l, digB c = true) : ∀ k, k ≤ l.length → 0 ≤ numK (l.take k) ∧ numK (l.take k) < (10 ^ k : Nat)
  | 0, _ => ⟨Int.le_refl _, by show (0 : Int) < ((10 ^ 0 : Nat) : Int); decide⟩
  | k + 1, hk => by
    have h1 := numK_take h k (by omega)
    have hc := h l[k] (List.getElem_mem (by omega))
    simp only [digB, Bool.and_eq_true, decide_eq_true_eq] at hc
    rw [List.take_succ_eq_append_getElem (by omega), numK_snoc, Nat.pow_succ]
    generalize numK (l.take k) = x at *
    generalize 10 ^ k = y at *
    omega
end Go.Vs
namespace Go.Vs.Ab
open Go.RowKit
variable {P : Program} {X : Mem} {W0 w w' : World} {m : Mm}
theorem lows_all {i j : Nat} : ∀ {cs : List AV}, (∀ (k : Nat) (c : AV), cs[k]? = some c → low i j c = true) → lows i j cs = true
  | [], _ => rfl
  | c :: r, h => by
    simp only [lows, Bool.and_eq_true]
    exact ⟨h 0 c rfl, lows_all fun k d hd => h (k + 1) d (by simpa using hd)⟩
theorem lowB_all {i j : Nat} : ∀ {bs : List Blk}, (∀ (k : Nat) (b : Blk), bs[k]? = some b → lows i j b.cs = true) → lowB i j bs = true
  | [], _ => rfl
  | c :: r, h => by
    simp only [lowB, Bool.and_eq_true]
    exact ⟨h 0 c rfl, lowB_all fun k d hd => h (k + 1) d (by simpa using hd)⟩
theorem get_pair {T U : Type} {vs : List T} {xs : List U} (h : vs.length = xs.length) {k : Nat} {c : T} (hc : vs[k]? = some c) : ∃ x, xs[k]? = some x := by
  have := (List.getElem?_eq_some_iff.1 hc).1
  exact ⟨xs[k]'(by omega), List.getElem?_eq_getElem _⟩
theorem Rep.lowed (M : MR X W0 m w) {c : AV} {x : Value} (h : Rep X c x) : Ab.low m.hp.length m.hw.length c = true := by
  induction h with
  | c h => rfl
  | agg h => rfl
  | tup hl _ ih =>
    simp only [Ab.low]
    refine lows_all fun k c hc => ?_
    obtain ⟨x, hx⟩ := get_pair hl hc
    exact ih k c x hc hx
  | own h hn hc hx ht =>
    obtain ⟨T, h1, _⟩ := ht
    have := M.odom _ T h1
    simp only [Ab.low, Nat.blt_eq]
    exact this
  | ptr h =>
    have := M.ldom _ _ h
    simp only [Ab.low, Nat.blt_eq]
    exact this
  | cptr h hx => rfl
  | fn h1 _ h3 _ ih1 ih2 =>
    simp only [Ab.low, Bool.and_eq_true]
    refine ⟨lows_all fun k c hc => ?_, lows_all fun k c hc => ?_⟩
    · obtain ⟨x, hx⟩ := get_pair h1 hc
      exact ih1 k c x hc hx
    · obtain ⟨x, hx⟩ := get_pair h3 hc
      exact ih2 k c x hc hx
  | lsl h ho hn hc hr =>
    have := M.ldom _ _ h
    simp only [Ab.low, Nat.blt_eq]
    exact this
  | mapp h =>
    have := M.ldom _ _ h
    simp only [Ab.low, Nat.blt_eq]
    exact this
  | ifc _ ih => simpa [Ab.low] using ih
  | strc hl _ h1 ih =>
    simp only [Ab.low]
    refine lows_all fun k c hc => ?_
    obtain ⟨x, hx⟩ := get_pair hl hc
    exact ih k c x hc hx
theorem MR.lowed (M : MR X W0 m w) : Ab.lowB m.hp.length m.hw.length m.hp = true := by
  refine lowB_all fun k b hb => ?_
  obtain ⟨β, _, _, _, hB⟩ := M.locs k b hb
  cases hB with
  | dead h => rw [h]; rfl
  | ent h => rw [h]; rfl
  | bld h hw hv hf hn =>
    rw [h]
    simp only [lows, low, Bool.and_true]
    exact hv.lowed M
  | byt h => rw [h]; rfl
  | cells hw hl hr hz hf =>
    refine lows_all fun k c hc => ?_
    obtain ⟨x, hx⟩ := get_pair hr.1 hc
    exact (hr.2 k c x hc hx).lowed M
theorem tr_low {R : MRel} [hR : RelOk R] {nt : Nat} {c : Code} {fr : Fr} {Q : Ex → Fr → Mm → Prop} (h : lowB m.hp.length m.hw.length m.hp = true → Tr R P nt c fr m Q) : Tr R P nt c fr m Q := fun X W0 w a F M => h M.lowed X W0 w a F M
theorem GivesW.trim {F : FuncId} {args : List AV} {r r' : AV} {m1 m2 : Mm} (h : GivesW P F args m r m1) (hk : Keep m2 m1) (hl : lowB m.hp.length m.hw.length m.hp = true → lowB m2.hp.length m2.hw.length m2.hp = true)
    (hp : m.hp.length ≤ m2.hp.length) (hq : m.hw.length ≤ m2.hw.length) (hr : ∀ (X : Mem) (i j : Nat) (v : Value), Rep X r v → Rep (X.cut i j) r' v) : GivesW P F args m r' m2 := by
  refine ⟨h.1, fun X W0 w vs M ha => (h.2 X W0 w vs M ha).mono ?_⟩
  rintro _ w' ⟨v, X', rfl, h1, h2, h3⟩
  refine ⟨v, X'.cut m2.hp.length m2.hw.length, rfl, ⟨h1.cell, h1.old, fun i β hi => ?_, fun k T hT => ?_, h1.room⟩, hr _ _ _ _ h2, h3.cut hk (hl M.lowed)⟩
  · have := M.ldom i β hi
    simp only [Mem.cut]
    rw [if_pos (by omega)]
    exact h1.loc i β hi
  · have := M.odom k T hT
    obtain ⟨T', g1, g2⟩ := h1.own k T hT
    refine ⟨T', ?_, g2⟩
    simp only [Mem.cut]
    rw [if_pos (by omega)]
    exact g1
theorem cut_shut {r r' : AV} (hs : Ab.shut r = some r') (X : Mem) (i j : Nat) (v : Value) (h : Rep X r v) : Rep (X.cut i j) r' v := shut_rep (X := X) (Y := X.cut i j) rfl hs h
theorem cut_nil (X : Mem) (i j : Nat) (v : Value) (h : Rep X (.tup []) v) : Rep (X.cut i j) (.tup []) v := h.cut rfl
/-! ### one block among others -/
theorem set_app {A E : List Blk} {b : Nat} (h : b < A.length) (x : Blk) : (A ++ E).set b x = A.set b x ++ E := by
  rw [List.set_append]
  rw [if_pos h]
theorem sa_get {A E : List Blk} {b : Nat} (h : b < A.length) (x : Blk) : (A.set b x ++ E)[b]? = some x := by
  rw [List.getElem?_append_left (by rw [List.length_set]; exact h)]
  exact List.getElem?_set_self h
theorem sa_set {A E : List Blk} {b : Nat} (h : b < A.length) (x y : Blk) : (A.set b x ++ E).set b y = A.set b y ++ E := by
  rw [List.set_append, if_pos (by rw [List.length_set]; exact h), List.set_set]
theorem s_get {A : List Blk} {b : Nat} (h : b < A.length) (x : Blk) : (A.set b x)[b]? = some x := List.getElem?_set_self h
theorem s_set (A : List Blk) (b : Nat) (x y : Blk) : (A.set b x).set b y = A.set b y := List.set_set _
theorem sa_get0 {A E : List Blk} {b : Nat} (x c : Blk) : (A.set b x ++ c :: E)[A.length]? = some c := by
  rw [List.getElem?_append_right (by rw [List.length_set]; exact Nat.le_refl _), List.length_set, Nat.sub_self]
  rfl
theorem sa_get1 {A E : List Blk} {b : Nat} (x c d : Blk) : (A.set b x ++ c :: d :: E)[A.length + 1]? = some d := by
  rw [List.getElem?_append_right (by rw [List.length_set]; exact Nat.le_add_right _ _), List.length_set, Nat.add_sub_cancel_left]
  rfl
theorem sa_set0 {A E : List Blk} {b : Nat} (x c y : Blk) : (A.set b x ++ c :: E).set A.length y = A.set b x ++ y :: E := by
  rw [List.set_append, if_neg (by rw [List.length_set]; exact Nat.lt_irrefl _), List.length_set, Nat.sub_self]
  rfl
theorem sa_set1 {A E : List Blk} {b : Nat} (x c d y : Blk) : (A.set b x ++ c :: d :: E).set (A.length + 1) y = A.set b x ++ c :: y :: E := by
  rw [List.set_append, if_neg (by rw [List.length_set]; omega), List.length_set, Nat.add_sub_cancel_left]
  rfl
theorem lowB_cat {i j : Nat} : ∀ {a b : List Blk}, lowB i j (a ++ b) = (lowB i j a && lowB i j b)
  | [], b => by simp [lowB]
  | x :: r, b => by simp only [List.cons_append, lowB, lowB_cat (a := r) (b := b), Bool.and_assoc]
end Go.Vs.Ab
namespace Go.Proofs.Ytinbfakpjnnagaa
open Go.RowKit Go.Vs Go.Vs.Ab
set_option maxRecDepth 100000
set_option maxHeartbeats 4000000
def rdC (ex : Bool) (L : List Tk) (n : Int) (r : Rs) : List AV := [.c (.sl ex L.length (L.flatMap tkC)), iA r.i, iA n, iA r.at_, iA r.e]
abbrev rdB (ex : Bool) (L : List Tk) (n : Int) (r : Rs) : Blk := ⟨false, rdC ex L n r⟩
attribute [go_sem] rdC
theorem idxTk {ex : Bool} {L : List Tk} {k : Nat} (h : k < L.length) : aIndexAddr Try.prog 77 (.c (.sl ex L.length (L.flatMap tkC))) (.c (.v (.int .i64 (k : Int)))) = some (.cptr (tkC L[k] ++ (L.drop (k + 1)).flatMap tkC)) :=
  idx_R tkC 3 (fun _ => rfl) Try.underlying77 sz112 (by decide) h
variable {A : List Blk} {hw : List Hw} {b : Nat} {ex : Bool} {L : List Tk} {n : Int}
theorem fail_gives (hb : b < A.length) (r : Rs) (e : Int) (j : Nat) : GivesW Try.prog 55 [.ptr b 0, iA e, iA j] ⟨A.set b (rdB ex L n r), hw⟩ (.tup []) ⟨A.set b (rdB ex L n (r.fail L n e j)), hw⟩ := by
  have g := fun x => s_get (A := A) hb x
  cases d1 : decide (r.e = 0) with
  | false =>
    have hr : r.fail L n e j = r := if_neg (of_decide_eq_false d1)
    rw [hr]
    refine givesW_of' Try.func55 rfl (by kernel_rfl) Try.ntmps55 rfl rfl fun Q hQ => ?_
    repeat (first | refine tr_seq_k fun _ _ => ?_ | (refine tr_region ?_; simp only [go_sem, reduceCtorEq, Nat.reduceEqDiff, Nat.reduceLT, Nat.reduceLeDiff, Nat.reduceAdd, Nat.reduceMul, Nat.reduceSub, Nat.reduceBEq, ↓reduceIte, g, d1]) | refine k_of (by assumption) ?_)
    refine tr_cond rfl (fun ht => ?_) (fun hf => ?_)
    · repeat ((refine tr_ret ?_; try simp only [ex_seq_ret, ex_block_ret]))
      exact (hQ _ _ [] rfl rfl rfl).2
    · cases hf
  | true =>
    by_cases hj : j < L.length
    · have hr : r.fail L n e j = ⟨r.i, L[j].at_, e⟩ := by
        unfold Rs.fail
        rw [if_pos (of_decide_eq_true d1), List.getElem?_eq_getElem hj]
      have ix := idxTk (ex := ex) hj
      have d2 : decide ((j : Int) < (L.length : Nat)) = true := decide_eq_true (by omega)
      rw [hr]
      generalize L[j] = t at *
      refine givesW_of' Try.func55 rfl (by kernel_rfl) Try.ntmps55 rfl rfl fun Q hQ => ?_
      repeat (first | refine tr_seq_k fun _ _ => ?_ | (refine tr_region ?_; simp only [go_sem, reduceCtorEq, Nat.reduceEqDiff, Nat.reduceLT, Nat.reduceLeDiff, Nat.reduceAdd, Nat.reduceMul, Nat.reduceSub, Nat.reduceBEq, ↓reduceIte, g, d1]) | refine k_of (by assumption) ?_)
      refine tr_cond rfl (fun ht => ?_) (fun hf => ?_)
      · cases ht
      · repeat (first | refine tr_seq_k fun _ _ => ?_ | (refine tr_region ?_; simp only [go_sem, reduceCtorEq, Nat.reduceEqDiff, Nat.reduceLT, Nat.reduceLeDiff, Nat.reduceAdd, Nat.reduceMul, Nat.reduceSub, Nat.reduceBEq, ↓reduceIte, g, s_set, d2]) | refine k_of (by assumption) ?_ | (refine tr_skip ?_; try simp only [ex_seq, ex_block]))
        refine tr_cond rfl (fun ht => ?_) (fun hf => ?_)
        · repeat ((refine tr_region ?_; simp only [go_sem, reduceCtorEq, Nat.reduceEqDiff, Nat.reduceLT, Nat.reduceLeDiff, Nat.reduceAdd, Nat.reduceMul, Nat.reduceSub, Nat.reduceBEq, ↓reduceIte, g, s_set, ix]))
          exact (hQ _ _ [] rfl rfl rfl).1
        · cases hf
    · have hr : r.fail L n e j = ⟨r.i, n, e⟩ := by
        unfold Rs.fail
        rw [if_pos (of_decide_eq_true d1), List.getElem?_eq_none (by omega)]
      have d2 : decide ((j : Int) < (L.length : Nat)) = false := decide_eq_false (by omega)
      rw [hr]
      refine givesW_of' Try.func55 rfl (by kernel_rfl) Try.ntmps55 rfl rfl fun Q hQ => ?_
      repeat (first | refine tr_seq_k fun _ _ => ?_ | (refine tr_region ?_; simp only [go_sem, reduceCtorEq, Nat.reduceEqDiff, Nat.reduceLT, Nat.reduceLeDiff, Nat.reduceAdd, Nat.reduceMul, Nat.reduceSub, Nat.reduceBEq, ↓reduceIte, g, d1]) | refine k_of (by assumption) ?_)
      refine tr_cond rfl (fun ht => ?_) (fun hf => ?_)
      · cases ht
      · repeat (first | refine tr_seq_k fun _ _ => ?_ | (refine tr_region ?_; simp only [go_sem, reduceCtorEq, Nat.reduceEqDiff, Nat.reduceLT, Nat.reduceLeDiff, Nat.reduceAdd, Nat.reduceMul, Nat.reduceSub, Nat.reduceBEq, ↓reduceIte, g, s_set, d2]) | refine k_of (by assumption) ?_ | (refine tr_skip ?_; try simp only [ex_seq, ex_block]))
        refine tr_cond rfl (fun ht => ?_) (fun hf => ?_)
        · cases ht
        · repeat ((refine tr_skip ?_; try simp only [ex_seq, ex_block]))
          exact (hQ _ _ [] rfl rfl rfl).1
theorem is_gives (hb : b < A.length) (r : Rs) (s : ByteArray) : GivesW Try.prog 53 [.ptr b 0, sA s] ⟨A.set b (rdB ex L n r), hw⟩ (bA (isT L r s)) ⟨A.set b (rdB ex L n r), hw⟩ := by
  have g := fun x => s_get (A := A) hb x
  cases d1 : decide (r.e = 0) with
  | false =>
    have hr : isT L r s = false := by unfold isT; rw [d1]; rfl
    rw [hr]
    refine givesW_of' Try.func53 rfl (by kernel_rfl) Try.ntmps53 rfl rfl fun Q hQ => ?_
    repeat (first | refine tr_seq_k fun _ _ => ?_ | (refine tr_region ?_; simp only [go_sem, reduceCtorEq, Nat.reduceEqDiff, Nat.reduceLT, Nat.reduceLeDiff, Nat.reduceAdd, Nat.reduceMul, Nat.reduceSub, Nat.reduceBEq, ↓reduceIte, g, d1]) | (refine tr_drawC (id := 1) follows 10000 (by kernel_rfl) ?_; simp only [go_sem, reduceCtorEq, Nat.reduceEqDiff, Nat.reduceLT, Nat.reduceLeDiff, Nat.reduceAdd, Nat.reduceMul, Nat.reduceSub, Nat.reduceBEq, ↓reduceIte, g, d1]) | refine k_of (by assumption) ?_ | (refine tr_ret ?_; try simp only [ex_seq_ret, ex_block_ret]))
    refine (hQ _ _ [bA false] ?_ rfl rfl).2 <;> simp only [go_sem, reduceCtorEq, Nat.reduceEqDiff, Nat.reduceLT, Nat.reduceLeDiff, Nat.reduceAdd, Nat.reduceMul, Nat.reduceSub, Nat.reduceBEq, ↓reduceIte, Try.f53]
  | true =>
    by_cases hj : r.i < L.length
    · have hr : isT L r s = decide (L[r.i].text = s) := by unfold isT; rw [d1, List.getElem?_eq_getElem hj]; rfl
      have ix := idxTk (ex := ex) hj
      have d2 : decide ((r.i : Int) < (L.length : Nat)) = true := decide_eq_true (by omega)
      rw [hr]
      generalize L[r.i] = t at *
      cases d3 : decide (t.text = s)
      all_goals
        refine givesW_of' Try.func53 rfl (by kernel_rfl) Try.ntmps53 rfl rfl fun Q hQ => ?_
        repeat (first | refine tr_seq_k fun _ _ => ?_ | (refine tr_region ?_; simp only [go_sem, reduceCtorEq, Nat.reduceEqDiff, Nat.reduceLT, Nat.reduceLeDiff, Nat.reduceAdd, Nat.reduceMul, Nat.reduceSub, Nat.reduceBEq, ↓reduceIte, g, d1, d2, ix, d3]) | (refine tr_drawC (id := 1) follows 10000 (by kernel_rfl) ?_; simp only [go_sem, reduceCtorEq, Nat.reduceEqDiff, Nat.reduceLT, Nat.reduceLeDiff, Nat.reduceAdd, Nat.reduceMul, Nat.reduceSub, Nat.reduceBEq, ↓reduceIte, g, d1, d2, ix, d3]) | refine k_of (by assumption) ?_ | (refine tr_ret ?_; try simp only [ex_seq_ret, ex_block_ret]))
        refine (hQ _ _ [bA _] ?_ rfl rfl).2 <;> simp only [go_sem, reduceCtorEq, Nat.reduceEqDiff, Nat.reduceLT, Nat.reduceLeDiff, Nat.reduceAdd, Nat.reduceMul, Nat.reduceSub, Nat.reduceBEq, ↓reduceIte, Try.f53]
    · have hr : isT L r s = false := by unfold isT; rw [d1, List.getElem?_eq_none (by omega)]; rfl
      have d2 : decide ((r.i : Int) < (L.length : Nat)) = false := decide_eq_false (by omega)
      rw [hr]
      refine givesW_of' Try.func53 rfl (by kernel_rfl) Try.ntmps53 rfl rfl fun Q hQ => ?_
      repeat (first | refine tr_seq_k fun _ _ => ?_ | (refine tr_region ?_; simp only [go_sem, reduceCtorEq, Nat.reduceEqDiff, Nat.reduceLT, Nat.reduceLeDiff, Nat.reduceAdd, Nat.reduceMul, Nat.reduceSub, Nat.reduceBEq, ↓reduceIte, g, d1, d2]) | (refine tr_drawC (id := 1) follows 10000 (by kernel_rfl) ?_; simp only [go_sem, reduceCtorEq, Nat.reduceEqDiff, Nat.reduceLT, Nat.reduceLeDiff, Nat.reduceAdd, Nat.reduceMul, Nat.reduceSub, Nat.reduceBEq, ↓reduceIte, g, d1, d2]) | refine k_of (by assumption) ?_ | (refine tr_ret ?_; try simp only [ex_seq_ret, ex_block_ret]))
      refine (hQ _ _ [bA false] ?_ rfl rfl).2 <;> simp only [go_sem, reduceCtorEq, Nat.reduceEqDiff, Nat.reduceLT, Nat.reduceLeDiff, Nat.reduceAdd, Nat.reduceMul, Nat.reduceSub, Nat.reduceBEq, ↓reduceIte, Try.f53]
theorem maybe_gives (hb : b < A.length) (hL : L.length ≤ 1000000) (r : Rs) (s : ByteArray) : GivesW Try.prog 33 [.ptr b 0, sA s] ⟨A.set b (rdB ex L n r), hw⟩ (bA (isT L r s)) ⟨A.set b (rdB ex L n (maybeR L r s)), hw⟩ := by
  have g := fun x => s_get (A := A) hb x
  have cI := is_gives (hw := hw) (ex := ex) (L := L) (n := n) hb r s
  unfold maybeR
  cases h1 : isT L r s with
  | false =>
    rw [h1] at cI
    rw [if_neg Bool.false_ne_true]
    refine givesW_of' Try.func33 rfl (by kernel_rfl) Try.ntmps33 rfl rfl fun Q hQ => ?_
    repeat (first | refine tr_seq_k fun _ _ => ?_ | (refine tr_region ?_; simp only [go_sem, reduceCtorEq, Nat.reduceEqDiff, Nat.reduceLT, Nat.reduceLeDiff, Nat.reduceAdd, Nat.reduceMul, Nat.reduceSub, Nat.reduceBEq, ↓reduceIte, g]) | (refine call_givesW (cI) ?_; (try dsimp only); (try simp only [go_sem, reduceCtorEq, Nat.reduceEqDiff, Nat.reduceLT, Nat.reduceLeDiff, Nat.reduceAdd, Nat.reduceMul, Nat.reduceSub, Nat.reduceBEq, ↓reduceIte, g])) | refine k_of (by assumption) ?_)
    refine tr_cond rfl (fun ht => ?_) (fun hf => ?_)
    · cases ht
    · repeat (first | refine tr_seq_k fun _ _ => ?_ | (refine tr_region ?_; simp only [go_sem, reduceCtorEq, Nat.reduceEqDiff, Nat.reduceLT, Nat.reduceLeDiff, Nat.reduceAdd, Nat.reduceMul, Nat.reduceSub, Nat.reduceBEq, ↓reduceIte]) | refine k_of (by assumption) ?_ | (refine tr_skip ?_; try simp only [ex_seq, ex_block]) | (refine tr_ret ?_; try simp only [ex_seq_ret, ex_block_ret]))
      refine (hQ _ _ [bA false] ?_ rfl rfl).2 <;> simp only [go_sem, reduceCtorEq, Nat.reduceEqDiff, Nat.reduceLT, Nat.reduceLeDiff, Nat.reduceAdd, Nat.reduceMul, Nat.reduceSub, Nat.reduceBEq, ↓reduceIte, Try.f33]
  | true =>
    have hi := (isT_lt h1).2
    have ws := wrap_succ (show r.i ≤ 1000000000 by omega)
    rw [h1] at cI
    rw [if_pos rfl]
    refine givesW_of' Try.func33 rfl (by kernel_rfl) Try.ntmps33 rfl rfl fun Q hQ => ?_
    repeat (first | refine tr_seq_k fun _ _ => ?_ | (refine tr_region ?_; simp only [go_sem, reduceCtorEq, Nat.reduceEqDiff, Nat.reduceLT, Nat.reduceLeDiff, Nat.reduceAdd, Nat.reduceMul, Nat.reduceSub, Nat.reduceBEq, ↓reduceIte, g]) | (refine call_givesW (cI) ?_; (try dsimp only); (try simp only [go_sem, reduceCtorEq, Nat.reduceEqDiff, Nat.reduceLT, Nat.reduceLeDiff, Nat.reduceAdd, Nat.reduceMul, Nat.reduceSub, Nat.reduceBEq, ↓reduceIte, g])) | refine k_of (by assumption) ?_)
    refine tr_cond rfl (fun ht => ?_) (fun hf => ?_)
    · repeat (first | refine tr_seq_k fun _ _ => ?_ | (refine tr_region ?_; simp only [go_sem, reduceCtorEq, Nat.reduceEqDiff, Nat.reduceLT, Nat.reduceLeDiff, Nat.reduceAdd, Nat.reduceMul, Nat.reduceSub, Nat.reduceBEq, ↓reduceIte, g, s_set, ws]) | refine k_of (by assumption) ?_ | (refine tr_ret ?_; try simp only [ex_seq_ret, ex_block_ret]))
      refine (hQ _ _ [bA true] ?_ rfl rfl).2 <;> simp only [go_sem, reduceCtorEq, Nat.reduceEqDiff, Nat.reduceLT, Nat.reduceLeDiff, Nat.reduceAdd, Nat.reduceMul, Nat.reduceSub, Nat.reduceBEq, ↓reduceIte, Try.f33]
    · cases hf
theorem must_gives (hb : b < A.length) (hL : L.length ≤ 1000000) (r : Rs) (s : ByteArray) : GivesW Try.prog 35 [.ptr b 0, sA s] ⟨A.set b (rdB ex L n r), hw⟩ (.tup []) ⟨A.set b (rdB ex L n (mustT L n r s)), hw⟩ := by
  have g := fun x => s_get (A := A) hb x
  have cI := maybe_gives (hw := hw) (ex := ex) (L := L) (n := n) hb hL r s
  have cF := fail_gives (hw := hw) (ex := ex) (L := L) (n := n) hb r 3 r.i
  unfold mustT
  unfold maybeR at cI
  cases h1 : isT L r s with
  | false =>
    rw [h1, if_neg Bool.false_ne_true] at cI
    rw [if_neg Bool.false_ne_true]
    refine givesW_of' Try.func35 rfl (by kernel_rfl) Try.ntmps35 rfl rfl fun Q hQ => ?_
    repeat (first | refine tr_seq_k fun _ _ => ?_ | (refine tr_region ?_; simp only [go_sem, reduceCtorEq, Nat.reduceEqDiff, Nat.reduceLT, Nat.reduceLeDiff, Nat.reduceAdd, Nat.reduceMul, Nat.reduceSub, Nat.reduceBEq, ↓reduceIte, g]) | (refine call_givesW (cI) ?_; (try dsimp only); (try simp only [go_sem, reduceCtorEq, Nat.reduceEqDiff, Nat.reduceLT, Nat.reduceLeDiff, Nat.reduceAdd, Nat.reduceMul, Nat.reduceSub, Nat.reduceBEq, ↓reduceIte, g])) | refine k_of (by assumption) ?_)
    refine tr_cond rfl (fun ht => ?_) (fun hf => ?_)
    · repeat (first | (refine tr_region ?_; simp only [go_sem, reduceCtorEq, Nat.reduceEqDiff, Nat.reduceLT, Nat.reduceLeDiff, Nat.reduceAdd, Nat.reduceMul, Nat.reduceSub, Nat.reduceBEq, ↓reduceIte, g]) | (refine call_givesW (cF) ?_; (try dsimp only); (try simp only [go_sem, reduceCtorEq, Nat.reduceEqDiff, Nat.reduceLT, Nat.reduceLeDiff, Nat.reduceAdd, Nat.reduceMul, Nat.reduceSub, Nat.reduceBEq, ↓reduceIte, g])))
      exact (hQ _ _ [] rfl rfl rfl).1
    · cases hf
  | true =>
    rw [h1, if_pos rfl] at cI
    rw [if_pos rfl]
    refine givesW_of' Try.func35 rfl (by kernel_rfl) Try.ntmps35 rfl rfl fun Q hQ => ?_
    repeat (first | refine tr_seq_k fun _ _ => ?_ | (refine tr_region ?_; simp only [go_sem, reduceCtorEq, Nat.reduceEqDiff, Nat.reduceLT, Nat.reduceLeDiff, Nat.reduceAdd, Nat.reduceMul, Nat.reduceSub, Nat.reduceBEq, ↓reduceIte, g]) | (refine call_givesW (cI) ?_; (try dsimp only); (try simp only [go_sem, reduceCtorEq, Nat.reduceEqDiff, Nat.reduceLT, Nat.reduceLeDiff, Nat.reduceAdd, Nat.reduceMul, Nat.reduceSub, Nat.reduceBEq, ↓reduceIte, g])) | refine k_of (by assumption) ?_)
    refine tr_cond rfl (fun ht => ?_) (fun hf => ?_)
    · cases ht
    · repeat ((refine tr_skip ?_; try simp only [ex_seq, ex_block]))
      exact (hQ _ _ [] rfl rfl rfl).1
end Go.Proofs.Ytinbfakpjnnagaa
namespace Go.Proofs.Ytinbfakpjnnagaa
open Go.RowKit Go.Vs Go.Vs.Ab
set_option maxRecDepth 100000
set_option maxHeartbeats 4000000
theorem num_tail (s : ByteArray) : decide (s ≠ ⟨#[]⟩) = !decide (s = ⟨#[]⟩) := by
  by_cases h : s = ⟨#[]⟩
  · simp [h]
  · simp [h]
theorem may3_does (s : ByteArray) (hz : s.size ≤ 1000000) : Does Try.prog 54 [iA 3, sA s] (fun m => (bA (pnum s), m)) := by
  have lsz := lts_len s
  refine does_of' Try.func54 rfl (by kernel_rfl) rfl Try.ntmps54 rfl rfl fun Q hQ => ?_
  repeat (first | refine tr_seq_k fun _ _ => ?_ | (refine tr_region ?_; simp only [go_sem, reduceCtorEq, Nat.reduceEqDiff, Nat.reduceLT, Nat.reduceLeDiff, Nat.reduceAdd, Nat.reduceMul, Nat.reduceSub, Nat.reduceBEq, ↓reduceIte]) | refine k_of (by assumption) ?_ | refine tr_block ?_)
  refine tr_cond rfl (fun ht => ?_) (fun hf => ?_)
  · cases ht
  repeat (first | refine tr_seq_k fun _ _ => ?_ | (refine tr_region ?_; simp only [go_sem, reduceCtorEq, Nat.reduceEqDiff, Nat.reduceLT, Nat.reduceLeDiff, Nat.reduceAdd, Nat.reduceMul, Nat.reduceSub, Nat.reduceBEq, ↓reduceIte]) | refine k_of (by assumption) ?_)
  refine tr_cond rfl (fun ht => ?_) (fun hf => ?_)
  · cases ht
  repeat (first | refine tr_seq_k fun _ _ => ?_ | (refine tr_region ?_; simp only [go_sem, reduceCtorEq, Nat.reduceEqDiff, Nat.reduceLT, Nat.reduceLeDiff, Nat.reduceAdd, Nat.reduceMul, Nat.reduceSub, Nat.reduceBEq, ↓reduceIte]) | refine k_of (by assumption) ?_)
  refine tr_cond rfl (fun ht => ?_) (fun hf => ?_)
  · cases ht
  repeat (first | refine tr_seq_k fun _ _ => ?_ | (refine tr_region ?_; simp only [go_sem, reduceCtorEq, Nat.reduceEqDiff, Nat.reduceLT, Nat.reduceLeDiff, Nat.reduceAdd, Nat.reduceMul, Nat.reduceSub, Nat.reduceBEq, ↓reduceIte]) | refine k_of (by assumption) ?_ | refine tr_block ?_ | (refine tr_skip ?_; try simp only [ex_seq, ex_block]))
  refine tr_loop_k (σ := Nat) (fun k => [(1, sA s), (5, iA k)]) (fun _ => ⟨[], []⟩) (fun k => k ≤ (lts s).length ∧ ((lts s).take k).all digB = true) (fun k => (lts s).length - k) 0 ⟨Nat.zero_le _, rfl⟩ ⟨rfl, rfl, trivial⟩ rfl ?_
  rintro k ⟨hk, hp⟩ K hK
  by_cases hkl : k < (lts s).length
  · have d1 : decide ((k : Int) < (s.size : Nat)) = true := decide_eq_true (by omega)
    have ix := idx_str s hkl
    have ws := wrap_succ (show k ≤ 1000000000 by omega)
    have hnx := all_next (p := digB) hkl hp
    have hfl := all_fail (p := digB) hkl
    generalize (lts s)[k] = c at *
    have cD := digit_does c
    cases h1 : digB c with
    | true =>
      rw [h1] at cD
      repeat (first | refine tr_seq_k fun _ _ => ?_ | (refine tr_region ?_; simp only [go_sem, reduceCtorEq, Nat.reduceEqDiff, Nat.reduceLT, Nat.reduceLeDiff, Nat.reduceAdd, Nat.reduceMul, Nat.reduceSub, Nat.reduceBEq, ↓reduceIte, d1]) | refine k_of (by assumption) ?_)
      refine tr_cond rfl (fun ht => ?_) (fun hf => ?_)
      · repeat (first | refine tr_seq_k fun _ _ => ?_ | (refine tr_region ?_; simp only [go_sem, reduceCtorEq, Nat.reduceEqDiff, Nat.reduceLT, Nat.reduceLeDiff, Nat.reduceAdd, Nat.reduceMul, Nat.reduceSub, Nat.reduceBEq, ↓reduceIte, ix]) | (refine call_of (cD) ?_ ?_; (first | rfl | simp only [go_sem, reduceCtorEq, Nat.reduceEqDiff, Nat.reduceLT, Nat.reduceLeDiff, Nat.reduceAdd, Nat.reduceMul, Nat.reduceSub, Nat.reduceBEq, ↓reduceIte, ix, shut_col]); simp only [go_sem, reduceCtorEq, Nat.reduceEqDiff, Nat.reduceLT, Nat.reduceLeDiff, Nat.reduceAdd, Nat.reduceMul, Nat.reduceSub, Nat.reduceBEq, ↓reduceIte, ix]) | refine k_of (by assumption) ?_ | refine tr_block ?_ | (refine tr_skip ?_; try simp only [ex_seq, ex_block]))
        refine tr_cond rfl (fun ht => ?_) (fun hf => ?_)
        · cases ht
        · repeat (first | (refine tr_region ?_; simp only [go_sem, reduceCtorEq, Nat.reduceEqDiff, Nat.reduceLT, Nat.reduceLeDiff, Nat.reduceAdd, Nat.reduceMul, Nat.reduceSub, Nat.reduceBEq, ↓reduceIte, ws]) | refine k_of (by assumption) ?_ | (refine tr_skip ?_; try simp only [ex_seq, ex_block]))
          exact hK (k + 1) _ _ ⟨hkl, hnx h1⟩ ⟨⟨rfl, rfl, trivial⟩, Keep.refl _, rfl, rfl, Nat.le_refl _, Nat.le_refl _⟩ (by omega)
      · cases hf
    | false =>
      rw [h1] at cD
      have hr : pnum s = false := by unfold pnum; rw [hfl h1]; rfl
      repeat (first | refine tr_seq_k fun _ _ => ?_ | (refine tr_region ?_; simp only [go_sem, reduceCtorEq, Nat.reduceEqDiff, Nat.reduceLT, Nat.reduceLeDiff, Nat.reduceAdd, Nat.reduceMul, Nat.reduceSub, Nat.reduceBEq, ↓reduceIte, d1]) | refine k_of (by assumption) ?_)
      refine tr_cond rfl (fun ht => ?_) (fun hf => ?_)
      · repeat (first | refine tr_seq_k fun _ _ => ?_ | (refine tr_region ?_; simp only [go_sem, reduceCtorEq, Nat.reduceEqDiff, Nat.reduceLT, Nat.reduceLeDiff, Nat.reduceAdd, Nat.reduceMul, Nat.reduceSub, Nat.reduceBEq, ↓reduceIte, ix]) | (refine call_of (cD) ?_ ?_; (first | rfl | simp only [go_sem, reduceCtorEq, Nat.reduceEqDiff, Nat.reduceLT, Nat.reduceLeDiff, Nat.reduceAdd, Nat.reduceMul, Nat.reduceSub, Nat.reduceBEq, ↓reduceIte, ix, shut_col]); simp only [go_sem, reduceCtorEq, Nat.reduceEqDiff, Nat.reduceLT, Nat.reduceLeDiff, Nat.reduceAdd, Nat.reduceMul, Nat.reduceSub, Nat.reduceBEq, ↓reduceIte, ix]) | refine k_of (by assumption) ?_ | refine tr_block ?_ | (refine tr_skip ?_; try simp only [ex_seq, ex_block]))
        refine tr_cond rfl (fun ht => ?_) (fun hf => ?_)
        · repeat (first | refine tr_seq_k fun _ _ => ?_ | (refine tr_region ?_; simp only [go_sem, reduceCtorEq, Nat.reduceEqDiff, Nat.reduceLT, Nat.reduceLeDiff, Nat.reduceAdd, Nat.reduceMul, Nat.reduceSub, Nat.reduceBEq, ↓reduceIte]) | refine k_of (by assumption) ?_ | (refine tr_ret ?_; try simp only [ex_seq_ret, ex_block_ret]))
          refine (hQ _ _ [bA false] ?_ (fun m => ?_)).2 <;> simp only [go_sem, reduceCtorEq, Nat.reduceEqDiff, Nat.reduceLT, Nat.reduceLeDiff, Nat.reduceAdd, Nat.reduceMul, Nat.reduceSub, Nat.reduceBEq, ↓reduceIte, Try.f54, hr]
        · cases hf
      · cases hf
  · have d1 : decide ((k : Int) < (s.size : Nat)) = false := decide_eq_false (by omega)
    obtain rfl : k = (lts s).length := by omega
    rw [List.take_length] at hp
    have hr : pnum s = (!decide (s = ⟨#[]⟩) && (decide ((s.size : Int) ≤ 7) && (decide ((s.size : Int) = 1) || headB (fun c => !decide ((c.toNat : Int) = 48)) s))) := by
      unfold pnum
      rw [hp, num_tail]
      rfl
    cases e1 : decide (s = ⟨#[]⟩) with
    | true =>
      rw [e1] at hr
      have hr : pnum s = false := hr
      repeat (first | refine tr_seq_k fun _ _ => ?_ | (refine tr_region ?_; simp only [go_sem, reduceCtorEq, Nat.reduceEqDiff, Nat.reduceLT, Nat.reduceLeDiff, Nat.reduceAdd, Nat.reduceMul, Nat.reduceSub, Nat.reduceBEq, ↓reduceIte, d1]) | refine k_of (by assumption) ?_)
      refine tr_cond rfl (fun ht => ?_) (fun hf => ?_)
      · cases ht
      · repeat (first | refine tr_seq_k fun _ _ => ?_ | (refine tr_region ?_; simp only [go_sem, reduceCtorEq, Nat.reduceEqDiff, Nat.reduceLT, Nat.reduceLeDiff, Nat.reduceAdd, Nat.reduceMul, Nat.reduceSub, Nat.reduceBEq, ↓reduceIte, e1]) | refine k_of (by assumption) ?_ | (refine tr_exit ?_; try simp only [ex_seq_exit, ex_block_exit, Nat.reduceEqDiff, if_true, if_false, ex_seq, ex_block, reduceCtorEq, ↓reduceIte]) | (refine tr_ret ?_; try simp only [ex_seq_ret, ex_block_ret]))
        refine (hQ _ _ [bA false] ?_ (fun m => ?_)).2 <;> simp only [go_sem, reduceCtorEq, Nat.reduceEqDiff, Nat.reduceLT, Nat.reduceLeDiff, Nat.reduceAdd, Nat.reduceMul, Nat.reduceSub, Nat.reduceBEq, ↓reduceIte, Try.f54, hr]
    | false =>
      rw [e1] at hr
      cases e2 : decide ((s.size : Int) ≤ 7) with
      | false =>
        rw [e2] at hr
        have hr : pnum s = false := hr
        repeat (first | refine tr_seq_k fun _ _ => ?_ | (refine tr_region ?_; simp only [go_sem, reduceCtorEq, Nat.reduceEqDiff, Nat.reduceLT, Nat.reduceLeDiff, Nat.reduceAdd, Nat.reduceMul, Nat.reduceSub, Nat.reduceBEq, ↓reduceIte, d1]) | refine k_of (by assumption) ?_)
        refine tr_cond rfl (fun ht => ?_) (fun hf => ?_)
        · cases ht
        · repeat (first | refine tr_seq_k fun _ _ => ?_ | (refine tr_region ?_; simp only [go_sem, reduceCtorEq, Nat.reduceEqDiff, Nat.reduceLT, Nat.reduceLeDiff, Nat.reduceAdd, Nat.reduceMul, Nat.reduceSub, Nat.reduceBEq, ↓reduceIte, e1, e2]) | refine k_of (by assumption) ?_ | (refine tr_exit ?_; try simp only [ex_seq_exit, ex_block_exit, Nat.reduceEqDiff, if_true, if_false, ex_seq, ex_block, reduceCtorEq, ↓reduceIte]) | (refine tr_ret ?_; try simp only [ex_seq_ret, ex_block_ret]))
          refine (hQ _ _ [bA false] ?_ (fun m => ?_)).2 <;> simp only [go_sem, reduceCtorEq, Nat.reduceEqDiff, Nat.reduceLT, Nat.reduceLeDiff, Nat.reduceAdd, Nat.reduceMul, Nat.reduceSub, Nat.reduceBEq, ↓reduceIte, Try.f54, hr]
      | true =>
        rw [e2] at hr
        cases e3 : decide ((s.size : Int) = 1) with
        | true =>
          rw [e3] at hr
          have hr : pnum s = true := hr
          repeat (first | refine tr_seq_k fun _ _ => ?_ | (refine tr_region ?_; simp only [go_sem, reduceCtorEq, Nat.reduceEqDiff, Nat.reduceLT, Nat.reduceLeDiff, Nat.reduceAdd, Nat.reduceMul, Nat.reduceSub, Nat.reduceBEq, ↓reduceIte, d1]) | refine k_of (by assumption) ?_)
          refine tr_cond rfl (fun ht => ?_) (fun hf => ?_)
          · cases ht
          · repeat (first | refine tr_seq_k fun _ _ => ?_ | (refine tr_region ?_; simp only [go_sem, reduceCtorEq, Nat.reduceEqDiff, Nat.reduceLT, Nat.reduceLeDiff, Nat.reduceAdd, Nat.reduceMul, Nat.reduceSub, Nat.reduceBEq, ↓reduceIte, e1, e2, e3]) | refine k_of (by assumption) ?_ | (refine tr_exit ?_; try simp only [ex_seq_exit, ex_block_exit, Nat.reduceEqDiff, if_true, if_false, ex_seq, ex_block, reduceCtorEq, ↓reduceIte]) | (refine tr_ret ?_; try simp only [ex_seq_ret, ex_block_ret]))
            refine (hQ _ _ [bA true] ?_ (fun m => ?_)).2 <;> simp only [go_sem, reduceCtorEq, Nat.reduceEqDiff, Nat.reduceLT, Nat.reduceLeDiff, Nat.reduceAdd, Nat.reduceMul, Nat.reduceSub, Nat.reduceBEq, ↓reduceIte, Try.f54, hr]
        | false =>
          rw [e3] at hr
          have hpos : 0 < s.size := by
            rcases Nat.eq_zero_or_pos s.size with h | h
            · exact absurd (size_zero h) (of_decide_eq_false e1)
            · exact h
          have ix := idx_str0 s (by omega)
          have hh := headB_get (p := fun c => !decide ((c.toNat : Int) = 48)) hpos
          rw [hh] at hr
          generalize (lts s)[0] = c at *
          cases e4 : decide ((c.toNat : Int) = 48) with
          | true =>
            rw [e4] at hr
            have hr : pnum s = false := hr
            repeat (first | refine tr_seq_k fun _ _ => ?_ | (refine tr_region ?_; simp only [go_sem, reduceCtorEq, Nat.reduceEqDiff, Nat.reduceLT, Nat.reduceLeDiff, Nat.reduceAdd, Nat.reduceMul, Nat.reduceSub, Nat.reduceBEq, ↓reduceIte, d1]) | refine k_of (by assumption) ?_)
            refine tr_cond rfl (fun ht => ?_) (fun hf => ?_)
            · cases ht
            · repeat (first | refine tr_seq_k fun _ _ => ?_ | (refine tr_region ?_; simp only [go_sem, reduceCtorEq, Nat.reduceEqDiff, Nat.reduceLT, Nat.reduceLeDiff, Nat.reduceAdd, Nat.reduceMul, Nat.reduceSub, Nat.reduceBEq, ↓reduceIte, e1, e2, e3, ix, e4]) | refine k_of (by assumption) ?_ | (refine tr_exit ?_; try simp only [ex_seq_exit, ex_block_exit, Nat.reduceEqDiff, if_true, if_false, ex_seq, ex_block, reduceCtorEq, ↓reduceIte]) | (refine tr_ret ?_; try simp only [ex_seq_ret, ex_block_ret]))
              refine (hQ _ _ [bA false] ?_ (fun m => ?_)).2 <;> simp only [go_sem, reduceCtorEq, Nat.reduceEqDiff, Nat.reduceLT, Nat.reduceLeDiff, Nat.reduceAdd, Nat.reduceMul, Nat.reduceSub, Nat.reduceBEq, ↓reduceIte, Try.f54, hr]
          | false =>
            rw [e4] at hr
            have hr : pnum s = true := hr
            repeat (first | refine tr_seq_k fun _ _ => ?_ | (refine tr_region ?_; simp only [go_sem, reduceCtorEq, Nat.reduceEqDiff, Nat.reduceLT, Nat.reduceLeDiff, Nat.reduceAdd, Nat.reduceMul, Nat.reduceSub, Nat.reduceBEq, ↓reduceIte, d1]) | refine k_of (by assumption) ?_)
            refine tr_cond rfl (fun ht => ?_) (fun hf => ?_)
            · cases ht
            · repeat (first | refine tr_seq_k fun _ _ => ?_ | (refine tr_region ?_; simp only [go_sem, reduceCtorEq, Nat.reduceEqDiff, Nat.reduceLT, Nat.reduceLeDiff, Nat.reduceAdd, Nat.reduceMul, Nat.reduceSub, Nat.reduceBEq, ↓reduceIte, e1, e2, e3, ix, e4]) | refine k_of (by assumption) ?_ | (refine tr_exit ?_; try simp only [ex_seq_exit, ex_block_exit, Nat.reduceEqDiff, if_true, if_false, ex_seq, ex_block, reduceCtorEq, ↓reduceIte]) | (refine tr_ret ?_; try simp only [ex_seq_ret, ex_block_ret]))
              refine (hQ _ _ [bA true] ?_ (fun m => ?_)).2 <;> simp only [go_sem, reduceCtorEq, Nat.reduceEqDiff, Nat.reduceLT, Nat.reduceLeDiff, Nat.reduceAdd, Nat.reduceMul, Nat.reduceSub, Nat.reduceBEq, ↓reduceIte, Try.f54, hr]
theorem may0_does (s : ByteArray) : Does Try.prog 54 [iA 0, sA s] (fun m => (bA (pprincipal s), m)) := by
  have c1 := principal_does s
  refine does_of' Try.func54 rfl (by kernel_rfl) rfl Try.ntmps54 rfl rfl fun Q hQ => ?_
  repeat (first | refine tr_seq_k fun _ _ => ?_ | (refine tr_region ?_; simp only [go_sem, reduceCtorEq, Nat.reduceEqDiff, Nat.reduceLT, Nat.reduceLeDiff, Nat.reduceAdd, Nat.reduceMul, Nat.reduceSub, Nat.reduceBEq, ↓reduceIte]) | refine k_of (by assumption) ?_ | refine tr_block ?_)
  refine tr_cond rfl (fun ht => ?_) (fun hf => ?_)
  · repeat (first | refine tr_seq_k fun _ _ => ?_ | (refine tr_region ?_; simp only [go_sem, reduceCtorEq, Nat.reduceEqDiff, Nat.reduceLT, Nat.reduceLeDiff, Nat.reduceAdd, Nat.reduceMul, Nat.reduceSub, Nat.reduceBEq, ↓reduceIte]) | (refine call_of (c1) ?_ ?_; (first | rfl | simp only [go_sem, reduceCtorEq, Nat.reduceEqDiff, Nat.reduceLT, Nat.reduceLeDiff, Nat.reduceAdd, Nat.reduceMul, Nat.reduceSub, Nat.reduceBEq, ↓reduceIte, shut_col]); simp only [go_sem, reduceCtorEq, Nat.reduceEqDiff, Nat.reduceLT, Nat.reduceLeDiff, Nat.reduceAdd, Nat.reduceMul, Nat.reduceSub, Nat.reduceBEq, ↓reduceIte]) | refine k_of (by assumption) ?_ | (refine tr_ret ?_; try simp only [ex_seq_ret, ex_block_ret]))
    refine (hQ _ _ [bA (pprincipal s)] ?_ (fun m => ?_)).2 <;> simp only [go_sem, reduceCtorEq, Nat.reduceEqDiff, Nat.reduceLT, Nat.reduceLeDiff, Nat.reduceAdd, Nat.reduceMul, Nat.reduceSub, Nat.reduceBEq, ↓reduceIte, Try.f54,]
  · cases hf
theorem may1_does (s : ByteArray) : Does Try.prog 54 [iA 1, sA s] (fun m => (bA (pprincipal s), m)) := by
  have c1 := predicate_does s
  refine does_of' Try.func54 rfl (by kernel_rfl) rfl Try.ntmps54 rfl rfl fun Q hQ => ?_
  repeat (first | refine tr_seq_k fun _ _ => ?_ | (refine tr_region ?_; simp only [go_sem, reduceCtorEq, Nat.reduceEqDiff, Nat.reduceLT, Nat.reduceLeDiff, Nat.reduceAdd, Nat.reduceMul, Nat.reduceSub, Nat.reduceBEq, ↓reduceIte]) | refine k_of (by assumption) ?_ | refine tr_block ?_)
  refine tr_cond rfl (fun ht => ?_) (fun hf => ?_)
  · cases ht
  repeat (first | refine tr_seq_k fun _ _ => ?_ | (refine tr_region ?_; simp only [go_sem, reduceCtorEq, Nat.reduceEqDiff, Nat.reduceLT, Nat.reduceLeDiff, Nat.reduceAdd, Nat.reduceMul, Nat.reduceSub, Nat.reduceBEq, ↓reduceIte]) | refine k_of (by assumption) ?_)
  refine tr_cond rfl (fun ht => ?_) (fun hf => ?_)
  · repeat (first | refine tr_seq_k fun _ _ => ?_ | (refine tr_region ?_; simp only [go_sem, reduceCtorEq, Nat.reduceEqDiff, Nat.reduceLT, Nat.reduceLeDiff, Nat.reduceAdd, Nat.reduceMul, Nat.reduceSub, Nat.reduceBEq, ↓reduceIte]) | (refine call_of (c1) ?_ ?_; (first | rfl | simp only [go_sem, reduceCtorEq, Nat.reduceEqDiff, Nat.reduceLT, Nat.reduceLeDiff, Nat.reduceAdd, Nat.reduceMul, Nat.reduceSub, Nat.reduceBEq, ↓reduceIte, shut_col]); simp only [go_sem, reduceCtorEq, Nat.reduceEqDiff, Nat.reduceLT, Nat.reduceLeDiff, Nat.reduceAdd, Nat.reduceMul, Nat.reduceSub, Nat.reduceBEq, ↓reduceIte]) | refine k_of (by assumption) ?_ | (refine tr_ret ?_; try simp only [ex_seq_ret, ex_block_ret]))
    refine (hQ _ _ [bA (pprincipal s)] ?_ (fun m => ?_)).2 <;> simp only [go_sem, reduceCtorEq, Nat.reduceEqDiff, Nat.reduceLT, Nat.reduceLeDiff, Nat.reduceAdd, Nat.reduceMul, Nat.reduceSub, Nat.reduceBEq, ↓reduceIte, Try.f54,]
  · cases hf
theorem may2_does (s : ByteArray) : Does Try.prog 54 [iA 2, sA s] (fun m => (bA (pconstant s || pvariable s), m)) := by
  have c1 := constant_does s
  have c2 := variable_does s
  cases h1 : pconstant s with
  | true =>
    rw [h1] at c1
    refine does_of' Try.func54 rfl (by kernel_rfl) rfl Try.ntmps54 rfl rfl fun Q hQ => ?_
    repeat (first | refine tr_seq_k fun _ _ => ?_ | (refine tr_region ?_; simp only [go_sem, reduceCtorEq, Nat.reduceEqDiff, Nat.reduceLT, Nat.reduceLeDiff, Nat.reduceAdd, Nat.reduceMul, Nat.reduceSub, Nat.reduceBEq, ↓reduceIte]) | refine k_of (by assumption) ?_ | refine tr_block ?_)
    refine tr_cond rfl (fun ht => ?_) (fun hf => ?_)
    · cases ht
    repeat (first | refine tr_seq_k fun _ _ => ?_ | (refine tr_region ?_; simp only [go_sem, reduceCtorEq, Nat.reduceEqDiff, Nat.reduceLT, Nat.reduceLeDiff, Nat.reduceAdd, Nat.reduceMul, Nat.reduceSub, Nat.reduceBEq, ↓reduceIte]) | refine k_of (by assumption) ?_)
    refine tr_cond rfl (fun ht => ?_) (fun hf => ?_)
    · cases ht
    repeat (first | refine tr_seq_k fun _ _ => ?_ | (refine tr_region ?_; simp only [go_sem, reduceCtorEq, Nat.reduceEqDiff, Nat.reduceLT, Nat.reduceLeDiff, Nat.reduceAdd, Nat.reduceMul, Nat.reduceSub, Nat.reduceBEq, ↓reduceIte]) | refine k_of (by assumption) ?_)
    refine tr_cond rfl (fun ht => ?_) (fun hf => ?_)
    · repeat (first | refine tr_seq_k fun _ _ => ?_ | (refine tr_region ?_; simp only [go_sem, reduceCtorEq, Nat.reduceEqDiff, Nat.reduceLT, Nat.reduceLeDiff, Nat.reduceAdd, Nat.reduceMul, Nat.reduceSub, Nat.reduceBEq, ↓reduceIte]) | (refine call_of (c1) ?_ ?_; (first | rfl | simp only [go_sem, reduceCtorEq, Nat.reduceEqDiff, Nat.reduceLT, Nat.reduceLeDiff, Nat.reduceAdd, Nat.reduceMul, Nat.reduceSub, Nat.reduceBEq, ↓reduceIte, shut_col]); simp only [go_sem, reduceCtorEq, Nat.reduceEqDiff, Nat.reduceLT, Nat.reduceLeDiff, Nat.reduceAdd, Nat.reduceMul, Nat.reduceSub, Nat.reduceBEq, ↓reduceIte]) | refine k_of (by assumption) ?_ | (refine tr_ret ?_; try simp only [ex_seq_ret, ex_block_ret]))
      refine (hQ _ _ [bA true] ?_ (fun m => rfl)).2 <;> simp only [go_sem, reduceCtorEq, Nat.reduceEqDiff, Nat.reduceLT, Nat.reduceLeDiff, Nat.reduceAdd, Nat.reduceMul, Nat.reduceSub, Nat.reduceBEq, ↓reduceIte, Try.f54]
    · cases hf
  | false =>
    rw [h1] at c1
    refine does_of' Try.func54 rfl (by kernel_rfl) rfl Try.ntmps54 rfl rfl fun Q hQ => ?_
    repeat (first | refine tr_seq_k fun _ _ => ?_ | (refine tr_region ?_; simp only [go_sem, reduceCtorEq, Nat.reduceEqDiff, Nat.reduceLT, Nat.reduceLeDiff, Nat.reduceAdd, Nat.reduceMul, Nat.reduceSub, Nat.reduceBEq, ↓reduceIte]) | refine k_of (by assumption) ?_ | refine tr_block ?_)
    refine tr_cond rfl (fun ht => ?_) (fun hf => ?_)
    · cases ht
    repeat (first | refine tr_seq_k fun _ _ => ?_ | (refine tr_region ?_; simp only [go_sem, reduceCtorEq, Nat.reduceEqDiff, Nat.reduceLT, Nat.reduceLeDiff, Nat.reduceAdd, Nat.reduceMul, Nat.reduceSub, Nat.reduceBEq, ↓reduceIte]) | refine k_of (by assumption) ?_)
    refine tr_cond rfl (fun ht => ?_) (fun hf => ?_)
    · cases ht
    repeat (first | refine tr_seq_k fun _ _ => ?_ | (refine tr_region ?_; simp only [go_sem, reduceCtorEq, Nat.reduceEqDiff, Nat.reduceLT, Nat.reduceLeDiff, Nat.reduceAdd, Nat.reduceMul, Nat.reduceSub, Nat.reduceBEq, ↓reduceIte]) | refine k_of (by assumption) ?_)
    refine tr_cond rfl (fun ht => ?_) (fun hf => ?_)
    · repeat (first | refine tr_seq_k fun _ _ => ?_ | (refine tr_region ?_; simp only [go_sem, reduceCtorEq, Nat.reduceEqDiff, Nat.reduceLT, Nat.reduceLeDiff, Nat.reduceAdd, Nat.reduceMul, Nat.reduceSub, Nat.reduceBEq, ↓reduceIte]) | (refine call_of (c1) ?_ ?_; (first | rfl | simp only [go_sem, reduceCtorEq, Nat.reduceEqDiff, Nat.reduceLT, Nat.reduceLeDiff, Nat.reduceAdd, Nat.reduceMul, Nat.reduceSub, Nat.reduceBEq, ↓reduceIte, shut_col]); simp only [go_sem, reduceCtorEq, Nat.reduceEqDiff, Nat.reduceLT, Nat.reduceLeDiff, Nat.reduceAdd, Nat.reduceMul, Nat.reduceSub, Nat.reduceBEq, ↓reduceIte]) | (refine call_of (c2) ?_ ?_; (first | rfl | simp only [go_sem, reduceCtorEq, Nat.reduceEqDiff, Nat.reduceLT, Nat.reduceLeDiff, Nat.reduceAdd, Nat.reduceMul, Nat.reduceSub, Nat.reduceBEq, ↓reduceIte, shut_col]); simp only [go_sem, reduceCtorEq, Nat.reduceEqDiff, Nat.reduceLT, Nat.reduceLeDiff, Nat.reduceAdd, Nat.reduceMul, Nat.reduceSub, Nat.reduceBEq, ↓reduceIte]) | refine k_of (by assumption) ?_ | (refine tr_ret ?_; try simp only [ex_seq_ret, ex_block_ret]))
      refine (hQ _ _ [bA (pvariable s)] ?_ (fun m => rfl)).2 <;> simp only [go_sem, reduceCtorEq, Nat.reduceEqDiff, Nat.reduceLT, Nat.reduceLeDiff, Nat.reduceAdd, Nat.reduceMul, Nat.reduceSub, Nat.reduceBEq, ↓reduceIte, Try.f54]
    · cases hf
theorem may_does (sort : Int) (hs : sort = 0 ∨ sort = 1 ∨ sort = 2 ∨ sort = 3) (s : ByteArray) (hz : s.size ≤ 1000000) : Does Try.prog 54 [iA sort, sA s] (fun m => (bA (mayT sort s), m)) := by
  rcases hs with rfl | rfl | rfl | rfl
  · exact may0_does s
  · exact may1_does s
  · exact may2_does s
  · exact may3_does s hz
variable {A : List Blk} {hw : List Hw} {b : Nat} {ex : Bool} {L : List Tk} {n : Int}
structure TkOk (L : List Tk) : Prop where
  len : L.length ≤ 1000000
  text : ∀ t ∈ L, t.text.size ≤ 1000000
theorem next_gives (hb : b < A.length) (hL : TkOk L) (r : Rs) (sort : Int) (hs : sort = 0 ∨ sort = 1 ∨ sort = 2 ∨ sort = 3) : GivesW Try.prog 34 [.ptr b 0, iA sort] ⟨A.set b (rdB ex L n r), hw⟩ (sA (nextS L r sort)) ⟨A.set b (rdB ex L n (nextR L n r sort)), hw⟩ := by
  have g := fun x => s_get (A := A) hb x
  have cF := fail_gives (hw := hw) (ex := ex) (L := L) (n := n) hb r 3 r.i
  unfold nextS nextR
  cases d1 : decide (r.e = 0) with
  | false =>
    have hr : nextOk L r sort = false := by unfold nextOk; rw [d1]; rfl
    rw [hr, if_neg Bool.false_ne_true, if_neg Bool.false_ne_true]
    refine givesW_of' Try.func34 rfl (by kernel_rfl) Try.ntmps34 rfl rfl fun Q hQ => ?_
    repeat (first | refine tr_seq_k fun _ _ => ?_ | (refine tr_region ?_; simp only [go_sem, reduceCtorEq, Nat.reduceEqDiff, Nat.reduceLT, Nat.reduceLeDiff, Nat.reduceAdd, Nat.reduceMul, Nat.reduceSub, Nat.reduceBEq, ↓reduceIte, g, d1]) | (refine tr_draw (id := 1) follows 10000 [30] [0, 1, 2, 3, 4, 5, 6, 7, 8, 9, 10, 11, 12, 13, 14, 15, 16, 17, 18, 19, 20, 21, 22, 23, 24, 25, 26, 27, 28, 29, 30, 31] (by kernel_rfl) ?_; simp only [go_sem, reduceCtorEq, Nat.reduceEqDiff, Nat.reduceLT, Nat.reduceLeDiff, Nat.reduceAdd, Nat.reduceMul, Nat.reduceSub, Nat.reduceBEq, ↓reduceIte, g, d1]) | refine k_of (by assumption) ?_)
    refine tr_cond rfl (fun ht => ?_) (fun hf => ?_)
    · cases ht
    · repeat (first | refine tr_seq_k fun _ _ => ?_ | (refine tr_region ?_; simp only [go_sem, reduceCtorEq, Nat.reduceEqDiff, Nat.reduceLT, Nat.reduceLeDiff, Nat.reduceAdd, Nat.reduceMul, Nat.reduceSub, Nat.reduceBEq, ↓reduceIte, g]) | (refine call_givesW (cF) ?_; (try dsimp only); (try simp only [go_sem, reduceCtorEq, Nat.reduceEqDiff, Nat.reduceLT, Nat.reduceLeDiff, Nat.reduceAdd, Nat.reduceMul, Nat.reduceSub, Nat.reduceBEq, ↓reduceIte, g])) | refine k_of (by assumption) ?_ | (refine tr_skip ?_; try simp only [ex_seq, ex_block]) | (refine tr_ret ?_; try simp only [ex_seq_ret, ex_block_ret]))
      refine (hQ _ _ [sA ⟨#[]⟩] ?_ rfl rfl).2 <;> simp only [go_sem, reduceCtorEq, Nat.reduceEqDiff, Nat.reduceLT, Nat.reduceLeDiff, Nat.reduceAdd, Nat.reduceMul, Nat.reduceSub, Nat.reduceBEq, ↓reduceIte, Try.f34]
  | true =>
    by_cases hj : r.i < L.length
    · have hr : nextOk L r sort = mayT sort L[r.i].text := by unfold nextOk; rw [d1, List.getElem?_eq_getElem hj]; rfl
      have ix := idxTk (ex := ex) hj
      have d2 : decide ((r.i : Int) < (L.length : Nat)) = true := decide_eq_true (by omega)
      have hz := hL.text L[r.i] (List.getElem_mem hj)
      have hlen := hL.len
      have ws := wrap_succ (show r.i ≤ 1000000000 by omega)
      have wp : IntKind.i64.wrap (((r.i + 1 : Nat) : Int) - 1) = (r.i : Int) := by rw [wrap_in (by omega)]; omega
      rw [hr, List.getElem?_eq_getElem hj]
      generalize L[r.i] = t at *
      have cM := may_does sort hs t.text hz
      cases h1 : mayT sort t.text with
      | true =>
        rw [h1] at cM
        rw [if_pos rfl, if_pos rfl]
        refine givesW_of' Try.func34 rfl (by kernel_rfl) Try.ntmps34 rfl rfl fun Q hQ => ?_
        repeat (first | refine tr_seq_k fun _ _ => ?_ | (refine tr_region ?_; simp only [go_sem, reduceCtorEq, Nat.reduceEqDiff, Nat.reduceLT, Nat.reduceLeDiff, Nat.reduceAdd, Nat.reduceMul, Nat.reduceSub, Nat.reduceBEq, ↓reduceIte, g, d1, d2, ix]) | (refine tr_draw (id := 1) follows 10000 [30] [0, 1, 2, 3, 4, 5, 6, 7, 8, 9, 10, 11, 12, 13, 14, 15, 16, 17, 18, 19, 20, 21, 22, 23, 24, 25, 26, 27, 28, 29, 30, 31] (by kernel_rfl) ?_; simp only [go_sem, reduceCtorEq, Nat.reduceEqDiff, Nat.reduceLT, Nat.reduceLeDiff, Nat.reduceAdd, Nat.reduceMul, Nat.reduceSub, Nat.reduceBEq, ↓reduceIte, g, d1, d2, ix]) | (refine call_of (cM) ?_ ?_; (first | rfl | simp only [go_sem, reduceCtorEq, Nat.reduceEqDiff, Nat.reduceLT, Nat.reduceLeDiff, Nat.reduceAdd, Nat.reduceMul, Nat.reduceSub, Nat.reduceBEq, ↓reduceIte, g, d1, d2, ix, shut_col]); simp only [go_sem, reduceCtorEq, Nat.reduceEqDiff, Nat.reduceLT, Nat.reduceLeDiff, Nat.reduceAdd, Nat.reduceMul, Nat.reduceSub, Nat.reduceBEq, ↓reduceIte, g, d1, d2, ix]) | refine k_of (by assumption) ?_)
        refine tr_cond rfl (fun ht => ?_) (fun hf => ?_)
        · repeat (first | refine tr_seq_k fun _ _ => ?_ | (refine tr_region ?_; simp only [go_sem, reduceCtorEq, Nat.reduceEqDiff, Nat.reduceLT, Nat.reduceLeDiff, Nat.reduceAdd, Nat.reduceMul, Nat.reduceSub, Nat.reduceBEq, ↓reduceIte, g, s_set, ws, wp, ix]) | (refine tr_drawC (id := 3) follows 10000 (by kernel_rfl) ?_; simp only [go_sem, reduceCtorEq, Nat.reduceEqDiff, Nat.reduceLT, Nat.reduceLeDiff, Nat.reduceAdd, Nat.reduceMul, Nat.reduceSub, Nat.reduceBEq, ↓reduceIte, g, s_set, ws, wp, ix]) | refine k_of (by assumption) ?_ | (refine tr_ret ?_; try simp only [ex_seq_ret, ex_block_ret]))
          refine (hQ _ _ [sA t.text] ?_ rfl rfl).2 <;> simp only [go_sem, reduceCtorEq, Nat.reduceEqDiff, Nat.reduceLT, Nat.reduceLeDiff, Nat.reduceAdd, Nat.reduceMul, Nat.reduceSub, Nat.reduceBEq, ↓reduceIte, Try.f34]
        · cases hf
      | false =>
        rw [h1] at cM
        rw [if_neg Bool.false_ne_true, if_neg Bool.false_ne_true]
        refine givesW_of' Try.func34 rfl (by kernel_rfl) Try.ntmps34 rfl rfl fun Q hQ => ?_
        repeat (first | refine tr_seq_k fun _ _ => ?_ | (refine tr_region ?_; simp only [go_sem, reduceCtorEq, Nat.reduceEqDiff, Nat.reduceLT, Nat.reduceLeDiff, Nat.reduceAdd, Nat.reduceMul, Nat.reduceSub, Nat.reduceBEq, ↓reduceIte, g, d1, d2, ix]) | (refine tr_draw (id := 1) follows 10000 [30] [0, 1, 2, 3, 4, 5, 6, 7, 8, 9, 10, 11, 12, 13, 14, 15, 16, 17, 18, 19, 20, 21, 22, 23, 24, 25, 26, 27, 28, 29, 30, 31] (by kernel_rfl) ?_; simp only [go_sem, reduceCtorEq, Nat.reduceEqDiff, Nat.reduceLT, Nat.reduceLeDiff, Nat.reduceAdd, Nat.reduceMul, Nat.reduceSub, Nat.reduceBEq, ↓reduceIte, g, d1, d2, ix]) | (refine call_of (cM) ?_ ?_; (first | rfl | simp only [go_sem, reduceCtorEq, Nat.reduceEqDiff, Nat.reduceLT, Nat.reduceLeDiff, Nat.reduceAdd, Nat.reduceMul, Nat.reduceSub, Nat.reduceBEq, ↓reduceIte, g, d1, d2, ix, shut_col]); simp only [go_sem, reduceCtorEq, Nat.reduceEqDiff, Nat.reduceLT, Nat.reduceLeDiff, Nat.reduceAdd, Nat.reduceMul, Nat.reduceSub, Nat.reduceBEq, ↓reduceIte, g, d1, d2, ix]) | refine k_of (by assumption) ?_)
        refine tr_cond rfl (fun ht => ?_) (fun hf => ?_)
        · cases ht
        · repeat (first | refine tr_seq_k fun _ _ => ?_ | (refine tr_region ?_; simp only [go_sem, reduceCtorEq, Nat.reduceEqDiff, Nat.reduceLT, Nat.reduceLeDiff, Nat.reduceAdd, Nat.reduceMul, Nat.reduceSub, Nat.reduceBEq, ↓reduceIte, g]) | (refine call_givesW (cF) ?_; (try dsimp only); (try simp only [go_sem, reduceCtorEq, Nat.reduceEqDiff, Nat.reduceLT, Nat.reduceLeDiff, Nat.reduceAdd, Nat.reduceMul, Nat.reduceSub, Nat.reduceBEq, ↓reduceIte, g])) | refine k_of (by assumption) ?_ | (refine tr_skip ?_; try simp only [ex_seq, ex_block]) | (refine tr_ret ?_; try simp only [ex_seq_ret, ex_block_ret]))
          refine (hQ _ _ [sA ⟨#[]⟩] ?_ rfl rfl).2 <;> simp only [go_sem, reduceCtorEq, Nat.reduceEqDiff, Nat.reduceLT, Nat.reduceLeDiff, Nat.reduceAdd, Nat.reduceMul, Nat.reduceSub, Nat.reduceBEq, ↓reduceIte, Try.f34]
    · have hr : nextOk L r sort = false := by unfold nextOk; rw [d1, List.getElem?_eq_none (by omega)]; rfl
      have d2 : decide ((r.i : Int) < (L.length : Nat)) = false := decide_eq_false (by omega)
      rw [hr, if_neg Bool.false_ne_true, if_neg Bool.false_ne_true]
      refine givesW_of' Try.func34 rfl (by kernel_rfl) Try.ntmps34 rfl rfl fun Q hQ => ?_
      repeat (first | refine tr_seq_k fun _ _ => ?_ | (refine tr_region ?_; simp only [go_sem, reduceCtorEq, Nat.reduceEqDiff, Nat.reduceLT, Nat.reduceLeDiff, Nat.reduceAdd, Nat.reduceMul, Nat.reduceSub, Nat.reduceBEq, ↓reduceIte, g, d1, d2]) | (refine tr_draw (id := 1) follows 10000 [30] [0, 1, 2, 3, 4, 5, 6, 7, 8, 9, 10, 11, 12, 13, 14, 15, 16, 17, 18, 19, 20, 21, 22, 23, 24, 25, 26, 27, 28, 29, 30, 31] (by kernel_rfl) ?_; simp only [go_sem, reduceCtorEq, Nat.reduceEqDiff, Nat.reduceLT, Nat.reduceLeDiff, Nat.reduceAdd, Nat.reduceMul, Nat.reduceSub, Nat.reduceBEq, ↓reduceIte, g, d1, d2]) | refine k_of (by assumption) ?_)
      refine tr_cond rfl (fun ht => ?_) (fun hf => ?_)
      · cases ht
      · repeat (first | refine tr_seq_k fun _ _ => ?_ | (refine tr_region ?_; simp only [go_sem, reduceCtorEq, Nat.reduceEqDiff, Nat.reduceLT, Nat.reduceLeDiff, Nat.reduceAdd, Nat.reduceMul, Nat.reduceSub, Nat.reduceBEq, ↓reduceIte, g]) | (refine call_givesW (cF) ?_; (try dsimp only); (try simp only [go_sem, reduceCtorEq, Nat.reduceEqDiff, Nat.reduceLT, Nat.reduceLeDiff, Nat.reduceAdd, Nat.reduceMul, Nat.reduceSub, Nat.reduceBEq, ↓reduceIte, g])) | refine k_of (by assumption) ?_ | (refine tr_skip ?_; try simp only [ex_seq, ex_block]) | (refine tr_ret ?_; try simp only [ex_seq_ret, ex_block_ret]))
        refine (hQ _ _ [sA ⟨#[]⟩] ?_ rfl rfl).2 <;> simp only [go_sem, reduceCtorEq, Nat.reduceEqDiff, Nat.reduceLT, Nat.reduceLeDiff, Nat.reduceAdd, Nat.reduceMul, Nat.reduceSub, Nat.reduceBEq, ↓reduceIte, Try.f34]
theorem once_gives (hb : b < A.length) (hL : TkOk L) (r : Rs) (was : Bool) (hi : 1 ≤ r.i) (hi2 : r.i ≤ L.length) : GivesW Try.prog 38 [.ptr b 0, bA was] ⟨A.set b (rdB ex L n r), hw⟩ (.tup []) ⟨A.set b (rdB ex L n (onceR L n r was)), hw⟩ := by
  have g := fun x => s_get (A := A) hb x
  have hlen := hL.len
  have wp : IntKind.i64.wrap ((r.i : Int) - 1) = ((r.i - 1 : Nat) : Int) := by rw [wrap_in (by omega)]; omega
  have cF := fail_gives (hw := hw) (ex := ex) (L := L) (n := n) hb r 5 (r.i - 1)
  cases was with
  | true =>
    refine givesW_of' Try.func38 rfl (by kernel_rfl) Try.ntmps38 rfl rfl fun Q hQ => ?_
    repeat (first | refine tr_seq_k fun _ _ => ?_ | (refine tr_region ?_; simp only [go_sem, reduceCtorEq, Nat.reduceEqDiff, Nat.reduceLT, Nat.reduceLeDiff, Nat.reduceAdd, Nat.reduceMul, Nat.reduceSub, Nat.reduceBEq, ↓reduceIte]) | refine k_of (by assumption) ?_)
    refine tr_cond rfl (fun ht => ?_) (fun hf => ?_)
    · repeat (first | (refine tr_region ?_; simp only [go_sem, reduceCtorEq, Nat.reduceEqDiff, Nat.reduceLT, Nat.reduceLeDiff, Nat.reduceAdd, Nat.reduceMul, Nat.reduceSub, Nat.reduceBEq, ↓reduceIte, g, wp]) | (refine call_givesW (cF) ?_; (try dsimp only); (try simp only [go_sem, reduceCtorEq, Nat.reduceEqDiff, Nat.reduceLT, Nat.reduceLeDiff, Nat.reduceAdd, Nat.reduceMul, Nat.reduceSub, Nat.reduceBEq, ↓reduceIte, g, wp])))
      exact (hQ _ _ [] rfl rfl rfl).1
    · cases hf
  | false =>
    refine givesW_of' Try.func38 rfl (by kernel_rfl) Try.ntmps38 rfl rfl fun Q hQ => ?_
    repeat (first | refine tr_seq_k fun _ _ => ?_ | (refine tr_region ?_; simp only [go_sem, reduceCtorEq, Nat.reduceEqDiff, Nat.reduceLT, Nat.reduceLeDiff, Nat.reduceAdd, Nat.reduceMul, Nat.reduceSub, Nat.reduceBEq, ↓reduceIte]) | refine k_of (by assumption) ?_)
    refine tr_cond rfl (fun ht => ?_) (fun hf => ?_)
    · cases ht
    · repeat ((refine tr_skip ?_; try simp only [ex_seq, ex_block]))
      exact (hQ _ _ [] rfl rfl rfl).1
end Go.Proofs.Ytinbfakpjnnagaa
namespace Go.Proofs.Ytinbfakpjnnagaa
open Go.RowKit Go.Vs Go.Vs.Ab
set_option maxRecDepth 100000
set_option maxHeartbeats 4000000
variable {A : List Blk} {hw : List Hw} {b : Nat} {ex : Bool} {L : List Tk} {n : Int}
theorem low_re {i j : Nat} {x y : Blk} (hx : lowB i j (A.set b x) = true) (hy : lows i j y.cs = true) : lowB i j (A.set b y) = true := by
  have := lowB_setb hy b hx
  rwa [List.set_set] at this
theorem low_ext {i j i' : Nat} {x y : Blk} {E : List Blk} (hx : lowB i j (A.set b x) = true) (hi : i ≤ i') (hy : lows i' j y.cs = true) (hE : lowB i' j E = true) : lowB i' j (A.set b y ++ E) = true := by
  rw [lowB_cat, hE, Bool.and_true]
  exact low_re (lowB_up hi (Nat.le_refl _) hx) hy
theorem withE {F : FuncId} {args : List AV} {r0 : AV} {x y : Blk} (h : ∀ A' : List Blk, b < A'.length → GivesW Try.prog F args ⟨A'.set b x, hw⟩ r0 ⟨A'.set b y, hw⟩) (hb : b < A.length) (E : List Blk) : GivesW Try.prog F args ⟨A.set b x ++ E, hw⟩ r0 ⟨A.set b y ++ E, hw⟩ := by
  have := h (A ++ E) (by rw [List.length_append]; omega)
  rwa [set_app hb, set_app hb] at this
theorem conv_b (x : Int) : pureVal Try.prog (convert 5 3 (.int .u8 x)) = some (.int .i64 (IntKind.i64.wrap x)) := by
  unfold convert
  simp [pv_bind, pv_under Try.underlying5, pv_under Try.underlying3]
  rfl
theorem nextS3 (L : List Tk) (r : Rs) : (∀ c ∈ lts (nextS L r 3), digB c = true) ∧ (nextS L r 3).size ≤ 7 := by
  unfold nextS
  split
  · rename_i h
    unfold nextOk at h
    rw [Bool.and_eq_true] at h
    cases hl : L[r.i]? with
    | none => exact ⟨fun c hc => (by cases hc), Nat.zero_le _⟩
    | some t =>
      rw [hl] at h
      have h2 : pnum t.text = true := h.2
      unfold pnum at h2
      simp only [Bool.and_eq_true, List.all_eq_true, decide_eq_true_eq] at h2
      exact ⟨h2.1, by have := h2.2.2.1; dsimp only; omega⟩
  · exact ⟨fun c hc => (by cases hc), Nat.zero_le _⟩
theorem number_gives (hb : b < A.length) (hL : TkOk L) (r : Rs) : GivesW Try.prog 36 [.ptr b 0] ⟨A.set b (rdB ex L n r), hw⟩ (iA (numB (nextS L r 3))) ⟨A.set b (rdB ex L n (nextR L n r 3)), hw⟩ := by
  have cN := next_gives (hw := hw) (ex := ex) (n := n) hb hL r 3 (by omega)
  obtain ⟨hd, hz⟩ := nextS3 L r
  generalize nextS L r 3 = s at *
  generalize nextR L n r 3 = r1 at *
  have lsz := lts_len s
  have hpow : ∀ k, k ≤ 7 → (10 ^ k : Nat) ≤ 10000000 := fun k hk => by
    have := Nat.pow_le_pow_right (n := 10) (by decide) hk
    exact this
  refine givesW_of' Try.func36 rfl (by kernel_rfl) Try.ntmps36 rfl rfl fun Q hQ => ?_
  refine tr_low fun hW => ?_
  repeat (first | refine tr_seq_k fun _ _ => ?_ | (refine tr_region ?_; simp only [go_sem, reduceCtorEq, Nat.reduceEqDiff, Nat.reduceLT, Nat.reduceLeDiff, Nat.reduceAdd, Nat.reduceMul, Nat.reduceSub, Nat.reduceBEq, ↓reduceIte]) | (refine call_givesW (cN) ?_; (try dsimp only); (try simp only [go_sem, reduceCtorEq, Nat.reduceEqDiff, Nat.reduceLT, Nat.reduceLeDiff, Nat.reduceAdd, Nat.reduceMul, Nat.reduceSub, Nat.reduceBEq, ↓reduceIte])) | refine k_of (by assumption) ?_ | refine tr_block ?_)
  refine tr_loop_k (σ := Nat) (fun k => [(3, sA s), (4, iA (numK ((lts s).take k))), (5, iA k)]) (fun _ => ⟨A.set b (rdB ex L n r1), hw⟩) (fun k => k ≤ (lts s).length) (fun k => (lts s).length - k) 0 (Nat.zero_le _) ⟨rfl, rfl, rfl, trivial⟩ rfl ?_
  rintro k hk K hK
  by_cases hkl : k < (lts s).length
  · have d1 : decide ((k : Int) < (s.size : Nat)) = true := decide_eq_true (by omega)
    have ix := idx_str s hkl
    have ws := wrap_succ (show k ≤ 1000000000 by omega)
    obtain ⟨q1, q2⟩ := numK_take hd k hk
    have q3 := hpow k (by omega)
    have hs := numK_snoc ((lts s).take k) (lts s)[k]
    rw [← List.take_succ_eq_append_getElem hkl] at hs
    have hc := hd (lts s)[k] (List.getElem_mem hkl)
    generalize (lts s)[k] = c at *
    generalize numK ((lts s).take k) = x at *
    simp only [digB, Bool.and_eq_true, decide_eq_true_eq] at hc
    have w1 : IntKind.i64.wrap (10 * x) = 10 * x := wrap_in (by omega)
    have w2 : IntKind.u8.wrap ((c.toNat : Int) - 48) = (c.toNat : Int) - 48 := by
      have : IntKind.u8.wrap ((c.toNat : Int) - 48) = ((c.toNat : Int) - 48) % 256 := rfl
      rw [this]; omega
    have w3 : IntKind.i64.wrap ((c.toNat : Int) - 48) = (c.toNat : Int) - 48 := wrap_in (by omega)
    have w4 : IntKind.i64.wrap (10 * x + ((c.toNat : Int) - 48)) = 10 * x + ((c.toNat : Int) - 48) := wrap_in (by omega)
    repeat (first | refine tr_seq_k fun _ _ => ?_ | (refine tr_region ?_; simp only [go_sem, reduceCtorEq, Nat.reduceEqDiff, Nat.reduceLT, Nat.reduceLeDiff, Nat.reduceAdd, Nat.reduceMul, Nat.reduceSub, Nat.reduceBEq, ↓reduceIte, d1]) | refine k_of (by assumption) ?_)
    refine tr_cond rfl (fun ht => ?_) (fun hf => ?_)
    · repeat (first | refine tr_seq_k fun _ _ => ?_ | (refine tr_region ?_; simp only [go_sem, reduceCtorEq, Nat.reduceEqDiff, Nat.reduceLT, Nat.reduceLeDiff, Nat.reduceAdd, Nat.reduceMul, Nat.reduceSub, Nat.reduceBEq, ↓reduceIte, ix, w1, w2, w3, w4, conv_b, ws]) | refine k_of (by assumption) ?_ | refine tr_block ?_ | (refine tr_skip ?_; try simp only [ex_seq, ex_block]))
      exact hK (k + 1) _ _ hkl ⟨⟨rfl, by rw [hs]; rfl, rfl, trivial⟩, Keep.refl _, rfl, by rw [List.length_set] at hW ⊢; exact low_re hW rfl, Nat.le_refl _, Nat.le_refl _⟩ (by omega)
    · cases hf
  · have d1 : decide ((k : Int) < (s.size : Nat)) = false := decide_eq_false (by omega)
    obtain rfl : k = (lts s).length := by omega
    rw [List.take_length]
    repeat (first | refine tr_seq_k fun _ _ => ?_ | (refine tr_region ?_; simp only [go_sem, reduceCtorEq, Nat.reduceEqDiff, Nat.reduceLT, Nat.reduceLeDiff, Nat.reduceAdd, Nat.reduceMul, Nat.reduceSub, Nat.reduceBEq, ↓reduceIte, d1]) | refine k_of (by assumption) ?_)
    refine tr_cond rfl (fun ht => ?_) (fun hf => ?_)
    · cases ht
    · repeat (first | refine tr_seq_k fun _ _ => ?_ | (refine tr_region ?_; simp only [go_sem, reduceCtorEq, Nat.reduceEqDiff, Nat.reduceLT, Nat.reduceLeDiff, Nat.reduceAdd, Nat.reduceMul, Nat.reduceSub, Nat.reduceBEq, ↓reduceIte]) | refine k_of (by assumption) ?_ | (refine tr_exit ?_; try simp only [ex_seq_exit, ex_block_exit, Nat.reduceEqDiff, if_true, if_false, ex_seq, ex_block, reduceCtorEq, ↓reduceIte]) | (refine tr_ret ?_; try simp only [ex_seq_ret, ex_block_ret]))
      refine (hQ _ _ [iA (numK (lts s))] ?_ rfl rfl).2 <;> simp only [go_sem, reduceCtorEq, Nat.reduceEqDiff, Nat.reduceLT, Nat.reduceLeDiff, Nat.reduceAdd, Nat.reduceMul, Nat.reduceSub, Nat.reduceBEq, ↓reduceIte, Try.f36]
/-! ### what is said -/
def atX (says pred : ByteArray) (ts : List Tm) : List AV := [sA says, sA pred, iA ts.length, bA (ts.getD 0 noT).v, sA (ts.getD 0 noT).name, bA (ts.getD 1 noT).v, sA (ts.getD 1 noT).name, bA (ts.getD 2 noT).v, sA (ts.getD 2 noT).name, bA (ts.getD 3 noT).v, sA (ts.getD 3 noT).name]
abbrev atZ0 : Blk := ⟨false, [sA ⟨#[]⟩, sA ⟨#[]⟩, iA 0, bA false, sA ⟨#[]⟩, bA false, sA ⟨#[]⟩, bA false, sA ⟨#[]⟩, bA false, sA ⟨#[]⟩]⟩
theorem len_cases {ts : List Tm} (h : ts.length ≤ 3) : ts = [] ∨ (∃ a, ts = [a]) ∨ (∃ a c, ts = [a, c]) ∨ ∃ a c d, ts = [a, c, d] := by
  match ts, h with
  | [], _ => exact Or.inl rfl
  | [a], _ => exact Or.inr (Or.inl ⟨a, rfl⟩)
  | [a, c], _ => exact Or.inr (Or.inr (Or.inl ⟨a, c, rfl⟩))
  | [a, c, d], _ => exact Or.inr (Or.inr (Or.inr ⟨a, c, d, rfl⟩))
theorem saidL_succ (L : List Tk) (n : Int) (f : Nat) (r : Rs) (ts : List Tm) : saidL L n (f + 1) r ts =
    if r.e = 0 then
      if (nextR L n r 2).e = 0 then
        if ts.length = 4 then ((nextR L n r 2).fail L n 4 r.i, ts)
        else if isT L (nextR L n r 2) kCom then saidL L n f (nextR L n r 2).adv (ts ++ [⟨pvariable (nextS L r 2), nextS L r 2⟩])
        else (nextR L n r 2, ts ++ [⟨pvariable (nextS L r 2), nextS L r 2⟩])
      else (nextR L n r 2, ts)
    else (r, ts) := rfl
theorem isT_bad {L : List Tk} {r : Rs} (s : ByteArray) (h : r.e ≠ 0) : isT L r s = false := by
  unfold isT
  rw [decide_eq_false h]
  rfl
theorem ixArr (B off : Nat) {k : Nat} (h : k < 4) : aIndexAddr Try.prog 38 (.ptr B off) (.c (.v (.int .i64 (k : Int)))) = some (.ptr B (off + k * 2)) := by
  have h1 : Nat.blt k 4 = true := by simpa using h
  have hn : ¬ ((k : Int) < 0) := by omega
  simp only [aIndexAddr, intV, Try.underlying38, sz37, Int.toNat_natCast, h1, if_true, hn, decide_false, Bool.false_eq_true, if_false]
theorem said_raw (hb : b < A.length) (hL : TkOk L) (r : Rs) (says : ByteArray) : ∃ y z : Blk, GivesW Try.prog 56 [.ptr b 0, sA says] ⟨A.set b (rdB ex L n r), hw⟩ (atA (saidF L n r says).2) ⟨A.set b (rdB ex L n (saidF L n r says).1) ++ [y, z], hw⟩ := by
  have g := fun (E : List Blk) x => sa_get (A := A) (E := E) hb x
  have g' := fun x => s_get (A := A) hb x
  have t := fun (E : List Blk) x y => sa_set (A := A) (E := E) hb x y
  have cN1 := withE (fun A' hb' => next_gives (A := A') (hw := hw) (ex := ex) (n := n) hb' hL r 1 (by omega)) hb [atZ0]
  unfold saidF
  obtain ⟨r1, hr1⟩ : ∃ r1, r1 = nextR L n r 1 := ⟨_, rfl⟩
  rw [← hr1] at cN1 ⊢
  generalize nextS L r 1 = p at *
  have cM := withE (fun A' hb' => maybe_gives (A := A') (hw := hw) (ex := ex) (n := n) hb' hL.len r1 kOpen) hb [atZ0, ⟨false, atX says p []⟩]
  unfold maybeR at cM
  cases h1 : isT L r1 kOpen with
  | false =>
    rw [h1, if_neg Bool.false_ne_true] at cM
    rw [if_neg Bool.false_ne_true]
    refine ⟨⟨false, atX says p []⟩, ⟨false, atX says p []⟩, ?_⟩
    refine givesW_of' Try.func56 rfl (by kernel_rfl) Try.ntmps56 rfl rfl fun Q hQ => ?_
    repeat (first | refine tr_seq_k fun _ _ => ?_ | (refine tr_region ?_; simp only [go_sem, reduceCtorEq, Nat.reduceEqDiff, Nat.reduceLT, Nat.reduceLeDiff, Nat.reduceAdd, Nat.reduceMul, Nat.reduceSub, Nat.reduceBEq, ↓reduceIte, g, g', t, s_set, List.length_set, List.length_append, List.length_cons, List.length_nil, List.append_assoc, List.cons_append, List.nil_append, sa_get0, sa_get1, sa_set0, sa_set1]) | (refine call_givesW (cN1) ?_; (try dsimp only); (try simp only [go_sem, reduceCtorEq, Nat.reduceEqDiff, Nat.reduceLT, Nat.reduceLeDiff, Nat.reduceAdd, Nat.reduceMul, Nat.reduceSub, Nat.reduceBEq, ↓reduceIte, g, g', t, s_set, List.length_set, List.length_append, List.length_cons, List.length_nil, List.append_assoc, List.cons_append, List.nil_append, sa_get0, sa_get1, sa_set0, sa_set1])) | (refine call_givesW (cM) ?_; (try dsimp only); (try simp only [go_sem, reduceCtorEq, Nat.reduceEqDiff, Nat.reduceLT, Nat.reduceLeDiff, Nat.reduceAdd, Nat.reduceMul, Nat.reduceSub, Nat.reduceBEq, ↓reduceIte, g, g', t, s_set, List.length_set, List.length_append, List.length_cons, List.length_nil, List.append_assoc, List.cons_append, List.nil_append, sa_get0, sa_get1, sa_set0, sa_set1])) | refine k_of (by assumption) ?_)
    refine tr_cond rfl (fun ht => ?_) (fun hf => ?_)
    · repeat (first | refine tr_seq_k fun _ _ => ?_ | (refine tr_region ?_; simp only [go_sem, reduceCtorEq, Nat.reduceEqDiff, Nat.reduceLT, Nat.reduceLeDiff, Nat.reduceAdd, Nat.reduceMul, Nat.reduceSub, Nat.reduceBEq, ↓reduceIte, g, g', t, s_set, List.length_set, List.length_append, List.length_cons, List.length_nil, List.append_assoc, List.cons_append, List.nil_append, sa_get0, sa_get1, sa_set0, sa_set1, atX]) | refine k_of (by assumption) ?_ | (refine tr_ret ?_; try simp only [ex_seq_ret, ex_block_ret]))
      refine (hQ _ _ [.agg [.v (.string says), .v (.string p), .v (.int .i64 (([] : List Tm).length : Nat)), .v (.bool (([] : List Tm).getD 0 noT).v), .v (.string (([] : List Tm).getD 0 noT).name), .v (.bool (([] : List Tm).getD 1 noT).v), .v (.string (([] : List Tm).getD 1 noT).name), .v (.bool (([] : List Tm).getD 2 noT).v), .v (.string (([] : List Tm).getD 2 noT).name), .v (.bool (([] : List Tm).getD 3 noT).v), .v (.string (([] : List Tm).getD 3 noT).name)]] ?_ rfl rfl).2 <;> simp only [go_sem, reduceCtorEq, Nat.reduceEqDiff, Nat.reduceLT, Nat.reduceLeDiff, Nat.reduceAdd, Nat.reduceMul, Nat.reduceSub, Nat.reduceBEq, ↓reduceIte, Try.f56, g, g', t, s_set, List.length_set, List.length_append, List.length_cons, List.length_nil, List.append_assoc, List.cons_append, List.nil_append, sa_get0, sa_get1, sa_set0, sa_set1, atX]
    · cases hf
  | true =>
    rw [h1, if_pos rfl] at cM
    rw [if_pos rfl]
    obtain ⟨T, hT⟩ : ∃ T, T = saidL L n 5 r1.adv [] := ⟨_, rfl⟩
    rw [← hT]
    have cMe := withE (fun A' hb' => must_gives (A := A') (hw := hw) (ex := ex) (n := n) hb' hL.len T.1 kShut) hb [atZ0, ⟨false, atX says p T.2⟩]
    refine ⟨⟨false, atX says p T.2⟩, ⟨false, atX says p T.2⟩, ?_⟩
    refine givesW_of' Try.func56 rfl (by kernel_rfl) Try.ntmps56 rfl rfl fun Q hQ => ?_
    refine tr_low fun hW => ?_
    rw [List.length_set] at hW
    repeat (first | refine tr_seq_k fun _ _ => ?_ | (refine tr_region ?_; simp only [go_sem, reduceCtorEq, Nat.reduceEqDiff, Nat.reduceLT, Nat.reduceLeDiff, Nat.reduceAdd, Nat.reduceMul, Nat.reduceSub, Nat.reduceBEq, ↓reduceIte, g, g', t, s_set, List.length_set, List.length_append, List.length_cons, List.length_nil, List.append_assoc, List.cons_append, List.nil_append, sa_get0, sa_get1, sa_set0, sa_set1]) | (refine call_givesW (cN1) ?_; (try dsimp only); (try simp only [go_sem, reduceCtorEq, Nat.reduceEqDiff, Nat.reduceLT, Nat.reduceLeDiff, Nat.reduceAdd, Nat.reduceMul, Nat.reduceSub, Nat.reduceBEq, ↓reduceIte, g, g', t, s_set, List.length_set, List.length_append, List.length_cons, List.length_nil, List.append_assoc, List.cons_append, List.nil_append, sa_get0, sa_get1, sa_set0, sa_set1])) | (refine call_givesW (cM) ?_; (try dsimp only); (try simp only [go_sem, reduceCtorEq, Nat.reduceEqDiff, Nat.reduceLT, Nat.reduceLeDiff, Nat.reduceAdd, Nat.reduceMul, Nat.reduceSub, Nat.reduceBEq, ↓reduceIte, g, g', t, s_set, List.length_set, List.length_append, List.length_cons, List.length_nil, List.append_assoc, List.cons_append, List.nil_append, sa_get0, sa_get1, sa_set0, sa_set1])) | refine k_of (by assumption) ?_)
    refine tr_cond rfl (fun ht => ?_) (fun hf => ?_)
    · cases ht
    repeat (first | refine tr_seq_k fun _ _ => ?_ | (refine tr_region ?_; simp only [go_sem, reduceCtorEq, Nat.reduceEqDiff, Nat.reduceLT, Nat.reduceLeDiff, Nat.reduceAdd, Nat.reduceMul, Nat.reduceSub, Nat.reduceBEq, ↓reduceIte]) | refine k_of (by assumption) ?_ | refine tr_block ?_ | (refine tr_skip ?_; try simp only [ex_seq, ex_block]))
    refine tr_loop_k (σ := Bool × Nat × Rs × List Tm) (fun q => [(0, .ptr b 0), (4, .ptr A.length 0), (5, .ptr (A.length + 1) 0), (6, bA q.1)]) (fun q => ⟨A.set b (rdB ex L n q.2.2.1) ++ [atZ0, ⟨false, atX says p q.2.2.2⟩], hw⟩)
      (fun q => (q.1 = true → saidL L n q.2.1 q.2.2.1 q.2.2.2 = T ∧ q.2.2.2.length + q.2.1 = 5 ∧ q.2.2.2.length ≤ 4) ∧ (q.1 = false → (q.2.2.1, q.2.2.2) = T)) (fun q => if q.1 then q.2.1 + 1 else 0) (true, 5, r1.adv, []) ⟨fun _ => ⟨hT.symm, rfl, Nat.zero_le _⟩, (fun h => by cases h)⟩ ⟨rfl, rfl, rfl, rfl, trivial⟩ rfl ?_
    rintro ⟨more, f, r2, ts⟩ ⟨hI1, hI2⟩ K hK
    dsimp only at hI1 hI2 ⊢
    cases more with
    | false =>
      obtain rfl := hI2 rfl
      repeat (first | refine tr_seq_k fun _ _ => ?_ | (refine tr_region ?_; simp only [go_sem, reduceCtorEq, Nat.reduceEqDiff, Nat.reduceLT, Nat.reduceLeDiff, Nat.reduceAdd, Nat.reduceMul, Nat.reduceSub, Nat.reduceBEq, ↓reduceIte, g, g', t, s_set, List.length_set, List.length_append, List.length_cons, List.length_nil, List.append_assoc, List.cons_append, List.nil_append, sa_get0, sa_get1, sa_set0, sa_set1]) | refine k_of (by assumption) ?_)
      refine tr_cond rfl (fun ht => ?_) (fun hf => ?_)
      · cases ht
      · dsimp only at cMe
        repeat (first | refine tr_seq_k fun _ _ => ?_ | (refine tr_region ?_; simp only [go_sem, reduceCtorEq, Nat.reduceEqDiff, Nat.reduceLT, Nat.reduceLeDiff, Nat.reduceAdd, Nat.reduceMul, Nat.reduceSub, Nat.reduceBEq, ↓reduceIte, g, g', t, s_set, List.length_set, List.length_append, List.length_cons, List.length_nil, List.append_assoc, List.cons_append, List.nil_append, sa_get0, sa_get1, sa_set0, sa_set1, atX]) | (refine call_givesW (cMe) ?_; (try dsimp only); (try simp only [go_sem, reduceCtorEq, Nat.reduceEqDiff, Nat.reduceLT, Nat.reduceLeDiff, Nat.reduceAdd, Nat.reduceMul, Nat.reduceSub, Nat.reduceBEq, ↓reduceIte, g, g', t, s_set, List.length_set, List.length_append, List.length_cons, List.length_nil, List.append_assoc, List.cons_append, List.nil_append, sa_get0, sa_get1, sa_set0, sa_set1, atX])) | refine k_of (by assumption) ?_ | (refine tr_exit ?_; try simp only [ex_seq_exit, ex_block_exit, Nat.reduceEqDiff, if_true, if_false, ex_seq, ex_block, reduceCtorEq, ↓reduceIte]) | (refine tr_ret ?_; try simp only [ex_seq_ret, ex_block_ret]))
        refine (hQ _ _ [.agg [.v (.string says), .v (.string p), .v (.int .i64 (ts.length : Nat)), .v (.bool (ts.getD 0 noT).v), .v (.string (ts.getD 0 noT).name), .v (.bool (ts.getD 1 noT).v), .v (.string (ts.getD 1 noT).name), .v (.bool (ts.getD 2 noT).v), .v (.string (ts.getD 2 noT).name), .v (.bool (ts.getD 3 noT).v), .v (.string (ts.getD 3 noT).name)]] ?_ rfl rfl).2 <;> simp only [go_sem, reduceCtorEq, Nat.reduceEqDiff, Nat.reduceLT, Nat.reduceLeDiff, Nat.reduceAdd, Nat.reduceMul, Nat.reduceSub, Nat.reduceBEq, ↓reduceIte, Try.f56, g, g', t, s_set, List.length_set, List.length_append, List.length_cons, List.length_nil, List.append_assoc, List.cons_append, List.nil_append, sa_get0, sa_get1, sa_set0, sa_set1, atX]
    | true =>
      obtain ⟨hS, hlen, h4⟩ := hI1 rfl
      obtain ⟨f, rfl⟩ : ∃ f', f = f' + 1 := ⟨f - 1, by omega⟩
      rw [saidL_succ] at hS
      cases d1 : decide (r2.e = 0) with
      | false =>
        rw [if_neg (of_decide_eq_false d1)] at hS
        obtain rfl := hS
        repeat (first | refine tr_seq_k fun _ _ => ?_ | (refine tr_region ?_; simp only [go_sem, reduceCtorEq, Nat.reduceEqDiff, Nat.reduceLT, Nat.reduceLeDiff, Nat.reduceAdd, Nat.reduceMul, Nat.reduceSub, Nat.reduceBEq, ↓reduceIte, g, g', t, s_set, List.length_set, List.length_append, List.length_cons, List.length_nil, List.append_assoc, List.cons_append, List.nil_append, sa_get0, sa_get1, sa_set0, sa_set1, d1]) | refine k_of (by assumption) ?_)
        refine tr_cond rfl (fun ht => ?_) (fun hf => ?_)
        · cases ht
        · dsimp only at cMe
          repeat (first | refine tr_seq_k fun _ _ => ?_ | (refine tr_region ?_; simp only [go_sem, reduceCtorEq, Nat.reduceEqDiff, Nat.reduceLT, Nat.reduceLeDiff, Nat.reduceAdd, Nat.reduceMul, Nat.reduceSub, Nat.reduceBEq, ↓reduceIte, g, g', t, s_set, List.length_set, List.length_append, List.length_cons, List.length_nil, List.append_assoc, List.cons_append, List.nil_append, sa_get0, sa_get1, sa_set0, sa_set1, atX]) | (refine call_givesW (cMe) ?_; (try dsimp only); (try simp only [go_sem, reduceCtorEq, Nat.reduceEqDiff, Nat.reduceLT, Nat.reduceLeDiff, Nat.reduceAdd, Nat.reduceMul, Nat.reduceSub, Nat.reduceBEq, ↓reduceIte, g, g', t, s_set, List.length_set, List.length_append, List.length_cons, List.length_nil, List.append_assoc, List.cons_append, List.nil_append, sa_get0, sa_get1, sa_set0, sa_set1, atX])) | refine k_of (by assumption) ?_ | (refine tr_exit ?_; try simp only [ex_seq_exit, ex_block_exit, Nat.reduceEqDiff, if_true, if_false, ex_seq, ex_block, reduceCtorEq, ↓reduceIte]) | (refine tr_ret ?_; try simp only [ex_seq_ret, ex_block_ret]))
          refine (hQ _ _ [.agg [.v (.string says), .v (.string p), .v (.int .i64 (ts.length : Nat)), .v (.bool (ts.getD 0 noT).v), .v (.string (ts.getD 0 noT).name), .v (.bool (ts.getD 1 noT).v), .v (.string (ts.getD 1 noT).name), .v (.bool (ts.getD 2 noT).v), .v (.string (ts.getD 2 noT).name), .v (.bool (ts.getD 3 noT).v), .v (.string (ts.getD 3 noT).name)]] ?_ rfl rfl).2 <;> simp only [go_sem, reduceCtorEq, Nat.reduceEqDiff, Nat.reduceLT, Nat.reduceLeDiff, Nat.reduceAdd, Nat.reduceMul, Nat.reduceSub, Nat.reduceBEq, ↓reduceIte, Try.f56, g, g', t, s_set, List.length_set, List.length_append, List.length_cons, List.length_nil, List.append_assoc, List.cons_append, List.nil_append, sa_get0, sa_get1, sa_set0, sa_set1, atX]
      | true =>
        rw [if_pos (of_decide_eq_true d1)] at hS
        have cN2 := withE (fun A' hb' => next_gives (A := A') (hw := hw) (ex := ex) (n := n) hb' hL r2 2 (by omega)) hb [atZ0, ⟨false, atX says p ts⟩]
        generalize nextR L n r2 2 = r3 at *
        generalize nextS L r2 2 = s at *
        have cV := variable_does s
        have px : plainB (atX says p ts) = true := rfl
        have gx : (atX says p ts)[2]? = some (iA ts.length) := rfl
        cases d2 : decide (r3.e = 0) with
        | false =>
          rw [if_neg (of_decide_eq_false d2)] at hS
          have cC := withE (fun A' hb' => maybe_gives (A := A') (hw := hw) (ex := ex) (n := n) hb' hL.len r3 kCom) hb [atZ0, ⟨false, atX says p ts⟩]
          unfold maybeR at cC
          rw [isT_bad _ (of_decide_eq_false d2), if_neg Bool.false_ne_true] at cC
          repeat (first | refine tr_seq_k fun _ _ => ?_ | (refine tr_region ?_; simp only [go_sem, reduceCtorEq, Nat.reduceEqDiff, Nat.reduceLT, Nat.reduceLeDiff, Nat.reduceAdd, Nat.reduceMul, Nat.reduceSub, Nat.reduceBEq, ↓reduceIte, g, g', t, s_set, List.length_set, List.length_append, List.length_cons, List.length_nil, List.append_assoc, List.cons_append, List.nil_append, sa_get0, sa_get1, sa_set0, sa_set1, d1]) | refine k_of (by assumption) ?_)
          refine tr_cond rfl (fun ht => ?_) (fun hf => ?_)
          · repeat (first | refine tr_seq_k fun _ _ => ?_ | (refine tr_region ?_; simp only [go_sem, reduceCtorEq, Nat.reduceEqDiff, Nat.reduceLT, Nat.reduceLeDiff, Nat.reduceAdd, Nat.reduceMul, Nat.reduceSub, Nat.reduceBEq, ↓reduceIte, g, g', t, s_set, List.length_set, List.length_append, List.length_cons, List.length_nil, List.append_assoc, List.cons_append, List.nil_append, sa_get0, sa_get1, sa_set0, sa_set1, d1, d2]) | (refine call_givesW (cN2) ?_; (try dsimp only); (try simp only [go_sem, reduceCtorEq, Nat.reduceEqDiff, Nat.reduceLT, Nat.reduceLeDiff, Nat.reduceAdd, Nat.reduceMul, Nat.reduceSub, Nat.reduceBEq, ↓reduceIte, g, g', t, s_set, List.length_set, List.length_append, List.length_cons, List.length_nil, List.append_assoc, List.cons_append, List.nil_append, sa_get0, sa_get1, sa_set0, sa_set1, d1, d2])) | refine k_of (by assumption) ?_ | refine tr_block ?_ | (refine tr_skip ?_; try simp only [ex_seq, ex_block]))
            refine tr_cond rfl (fun ht => ?_) (fun hf => ?_)
            · cases ht
            · repeat (first | refine tr_seq_k fun _ _ => ?_ | (refine tr_region ?_; simp only [go_sem, reduceCtorEq, Nat.reduceEqDiff, Nat.reduceLT, Nat.reduceLeDiff, Nat.reduceAdd, Nat.reduceMul, Nat.reduceSub, Nat.reduceBEq, ↓reduceIte, g, g', t, s_set, List.length_set, List.length_append, List.length_cons, List.length_nil, List.append_assoc, List.cons_append, List.nil_append, sa_get0, sa_get1, sa_set0, sa_set1, d2]) | refine k_of (by assumption) ?_ | (refine tr_skip ?_; try simp only [ex_seq, ex_block]))
              refine tr_cond rfl (fun ht => ?_) (fun hf => ?_)
              · cases ht
              · repeat (first | (refine tr_region ?_; simp only [go_sem, reduceCtorEq, Nat.reduceEqDiff, Nat.reduceLT, Nat.reduceLeDiff, Nat.reduceAdd, Nat.reduceMul, Nat.reduceSub, Nat.reduceBEq, ↓reduceIte, g, g', t, s_set, List.length_set, List.length_append, List.length_cons, List.length_nil, List.append_assoc, List.cons_append, List.nil_append, sa_get0, sa_get1, sa_set0, sa_set1]) | (refine call_givesW (cC) ?_; (try dsimp only); (try simp only [go_sem, reduceCtorEq, Nat.reduceEqDiff, Nat.reduceLT, Nat.reduceLeDiff, Nat.reduceAdd, Nat.reduceMul, Nat.reduceSub, Nat.reduceBEq, ↓reduceIte, g, g', t, s_set, List.length_set, List.length_append, List.length_cons, List.length_nil, List.append_assoc, List.cons_append, List.nil_append, sa_get0, sa_get1, sa_set0, sa_set1])) | refine k_of (by assumption) ?_ | (refine tr_skip ?_; try simp only [ex_seq, ex_block]))
                exact hK (false, f, r3, ts) _ _ ⟨(fun h => by cases h), fun _ => hS⟩ ⟨⟨rfl, rfl, rfl, rfl, trivial⟩, Keep.refl _, by simp only [lowF, low, List.length_append, List.length_set, List.length_cons, List.length_nil, Nat.blt_eq, Bool.and_eq_true, and_true]; omega, by simp only [List.length_append, List.length_set, List.length_cons, List.length_nil]; exact low_ext hW (by omega) rfl rfl, by simp only [List.length_append, List.length_set]; exact Nat.le_refl _, Nat.le_refl _⟩ (by simp)
          · cases hf
        | true =>
          rw [if_pos (of_decide_eq_true d2)] at hS
          by_cases hl4 : ts.length = 4
          · rw [if_pos hl4] at hS
            have d3 : decide ((ts.length : Int) = 4) = true := decide_eq_true (by omega)
            have cF := withE (fun A' hb' => fail_gives (A := A') (hw := hw) (ex := ex) (L := L) (n := n) hb' r3 4 r2.i) hb [atZ0, ⟨false, atX says p ts⟩]
            have hfe : (r3.fail L n 4 r2.i).e = 4 := by
              unfold Rs.fail
              rw [if_pos (of_decide_eq_true d2)]
            generalize r3.fail L n 4 r2.i = r4 at *
            have d4 : decide (r4.e = 0) = false := decide_eq_false (by omega)
            have cC := withE (fun A' hb' => maybe_gives (A := A') (hw := hw) (ex := ex) (n := n) hb' hL.len r4 kCom) hb [atZ0, ⟨false, atX says p ts⟩]
            unfold maybeR at cC
            rw [isT_bad _ (of_decide_eq_false d4), if_neg Bool.false_ne_true] at cC
            repeat (first | refine tr_seq_k fun _ _ => ?_ | (refine tr_region ?_; simp only [go_sem, reduceCtorEq, Nat.reduceEqDiff, Nat.reduceLT, Nat.reduceLeDiff, Nat.reduceAdd, Nat.reduceMul, Nat.reduceSub, Nat.reduceBEq, ↓reduceIte, g, g', t, s_set, List.length_set, List.length_append, List.length_cons, List.length_nil, List.append_assoc, List.cons_append, List.nil_append, sa_get0, sa_get1, sa_set0, sa_set1, d1]) | refine k_of (by assumption) ?_)
            refine tr_cond rfl (fun ht => ?_) (fun hf => ?_)
            · repeat (first | refine tr_seq_k fun _ _ => ?_ | (refine tr_region ?_; simp only [go_sem, reduceCtorEq, Nat.reduceEqDiff, Nat.reduceLT, Nat.reduceLeDiff, Nat.reduceAdd, Nat.reduceMul, Nat.reduceSub, Nat.reduceBEq, ↓reduceIte, g, g', t, s_set, List.length_set, List.length_append, List.length_cons, List.length_nil, List.append_assoc, List.cons_append, List.nil_append, sa_get0, sa_get1, sa_set0, sa_set1, d1, d2, d3, px, gx]) | (refine call_givesW (cN2) ?_; (try dsimp only); (try simp only [go_sem, reduceCtorEq, Nat.reduceEqDiff, Nat.reduceLT, Nat.reduceLeDiff, Nat.reduceAdd, Nat.reduceMul, Nat.reduceSub, Nat.reduceBEq, ↓reduceIte, g, g', t, s_set, List.length_set, List.length_append, List.length_cons, List.length_nil, List.append_assoc, List.cons_append, List.nil_append, sa_get0, sa_get1, sa_set0, sa_set1, d1, d2, d3, px, gx])) | refine k_of (by assumption) ?_ | refine tr_block ?_ | (refine tr_skip ?_; try simp only [ex_seq, ex_block]))
              refine tr_cond rfl (fun ht => ?_) (fun hf => ?_)
              · repeat (first | refine tr_seq_k fun _ _ => ?_ | (refine tr_region ?_; simp only [go_sem, reduceCtorEq, Nat.reduceEqDiff, Nat.reduceLT, Nat.reduceLeDiff, Nat.reduceAdd, Nat.reduceMul, Nat.reduceSub, Nat.reduceBEq, ↓reduceIte, g, g', t, s_set, List.length_set, List.length_append, List.length_cons, List.length_nil, List.append_assoc, List.cons_append, List.nil_append, sa_get0, sa_get1, sa_set0, sa_set1, d4]) | (refine call_givesW (cF) ?_; (try dsimp only); (try simp only [go_sem, reduceCtorEq, Nat.reduceEqDiff, Nat.reduceLT, Nat.reduceLeDiff, Nat.reduceAdd, Nat.reduceMul, Nat.reduceSub, Nat.reduceBEq, ↓reduceIte, g, g', t, s_set, List.length_set, List.length_append, List.length_cons, List.length_nil, List.append_assoc, List.cons_append, List.nil_append, sa_get0, sa_get1, sa_set0, sa_set1, d4])) | refine k_of (by assumption) ?_)
                refine tr_cond rfl (fun ht => ?_) (fun hf => ?_)
                · cases ht
                · repeat (first | (refine tr_region ?_; simp only [go_sem, reduceCtorEq, Nat.reduceEqDiff, Nat.reduceLT, Nat.reduceLeDiff, Nat.reduceAdd, Nat.reduceMul, Nat.reduceSub, Nat.reduceBEq, ↓reduceIte, g, g', t, s_set, List.length_set, List.length_append, List.length_cons, List.length_nil, List.append_assoc, List.cons_append, List.nil_append, sa_get0, sa_get1, sa_set0, sa_set1]) | (refine call_givesW (cC) ?_; (try dsimp only); (try simp only [go_sem, reduceCtorEq, Nat.reduceEqDiff, Nat.reduceLT, Nat.reduceLeDiff, Nat.reduceAdd, Nat.reduceMul, Nat.reduceSub, Nat.reduceBEq, ↓reduceIte, g, g', t, s_set, List.length_set, List.length_append, List.length_cons, List.length_nil, List.append_assoc, List.cons_append, List.nil_append, sa_get0, sa_get1, sa_set0, sa_set1])) | refine k_of (by assumption) ?_ | (refine tr_skip ?_; try simp only [ex_seq, ex_block]))
                  exact hK (false, f, r4, ts) _ _ ⟨(fun h => by cases h), fun _ => hS⟩ ⟨⟨rfl, rfl, rfl, rfl, trivial⟩, Keep.refl _, by simp only [lowF, low, List.length_append, List.length_set, List.length_cons, List.length_nil, Nat.blt_eq, Bool.and_eq_true, and_true]; omega, by simp only [List.length_append, List.length_set, List.length_cons, List.length_nil]; exact low_ext hW (by omega) rfl rfl, by simp only [List.length_append, List.length_set]; exact Nat.le_refl _, Nat.le_refl _⟩ (by simp)
              · cases hf
            · cases hf
          · rw [if_neg hl4] at hS
            have d3 : decide ((ts.length : Int) = 4) = false := decide_eq_false (by omega)
            have cC := withE (fun A' hb' => maybe_gives (A := A') (hw := hw) (ex := ex) (n := n) hb' hL.len r3 kCom) hb [atZ0, ⟨false, atX says p (ts ++ [⟨pvariable s, s⟩])⟩]
            unfold maybeR at cC
            repeat (first | refine tr_seq_k fun _ _ => ?_ | (refine tr_region ?_; simp only [go_sem, reduceCtorEq, Nat.reduceEqDiff, Nat.reduceLT, Nat.reduceLeDiff, Nat.reduceAdd, Nat.reduceMul, Nat.reduceSub, Nat.reduceBEq, ↓reduceIte, g, g', t, s_set, List.length_set, List.length_append, List.length_cons, List.length_nil, List.append_assoc, List.cons_append, List.nil_append, sa_get0, sa_get1, sa_set0, sa_set1, d1]) | refine k_of (by assumption) ?_)
            refine tr_cond rfl (fun ht => ?_) (fun hf => ?_)
            · repeat (first | refine tr_seq_k fun _ _ => ?_ | (refine tr_region ?_; simp only [go_sem, reduceCtorEq, Nat.reduceEqDiff, Nat.reduceLT, Nat.reduceLeDiff, Nat.reduceAdd, Nat.reduceMul, Nat.reduceSub, Nat.reduceBEq, ↓reduceIte, g, g', t, s_set, List.length_set, List.length_append, List.length_cons, List.length_nil, List.append_assoc, List.cons_append, List.nil_append, sa_get0, sa_get1, sa_set0, sa_set1, d1, d2, d3, px, gx]) | (refine call_givesW (cN2) ?_; (try dsimp only); (try simp only [go_sem, reduceCtorEq, Nat.reduceEqDiff, Nat.reduceLT, Nat.reduceLeDiff, Nat.reduceAdd, Nat.reduceMul, Nat.reduceSub, Nat.reduceBEq, ↓reduceIte, g, g', t, s_set, List.length_set, List.length_append, List.length_cons, List.length_nil, List.append_assoc, List.cons_append, List.nil_append, sa_get0, sa_get1, sa_set0, sa_set1, d1, d2, d3, px, gx])) | refine k_of (by assumption) ?_ | refine tr_block ?_ | (refine tr_skip ?_; try simp only [ex_seq, ex_block]))
              refine tr_cond rfl (fun ht => ?_) (fun hf => ?_)
              · cases ht
              · repeat (first | refine tr_seq_k fun _ _ => ?_ | (refine tr_region ?_; simp only [go_sem, reduceCtorEq, Nat.reduceEqDiff, Nat.reduceLT, Nat.reduceLeDiff, Nat.reduceAdd, Nat.reduceMul, Nat.reduceSub, Nat.reduceBEq, ↓reduceIte, g, g', t, s_set, List.length_set, List.length_append, List.length_cons, List.length_nil, List.append_assoc, List.cons_append, List.nil_append, sa_get0, sa_get1, sa_set0, sa_set1, d2]) | refine k_of (by assumption) ?_ | (refine tr_skip ?_; try simp only [ex_seq, ex_block]))
                refine tr_cond rfl (fun ht => ?_) (fun hf => ?_)
                · rcases len_cases (ts := ts) (by omega) with rfl | ⟨a, rfl⟩ | ⟨a, c, rfl⟩ | ⟨a, c, d, rfl⟩
                  · rw [show atX says p [] = [.c (.v (.string says)), .c (.v (.string p)), .c (.v (.int .i64 0)), .c (.v (.bool noT.v)), .c (.v (.string noT.name)), .c (.v (.bool noT.v)), .c (.v (.string noT.name)), .c (.v (.bool noT.v)), .c (.v (.string noT.name)), .c (.v (.bool noT.v)), .c (.v (.string noT.name))] from rfl]
                    have w1 : IntKind.i64.wrap ((0 : Int) + 1) = 1 := by decide
                    have ixa : aIndexAddr Try.prog 38 (.ptr (A.length + 1) 3) (.c (.v (.int .i64 0))) = some (.ptr (A.length + 1) 3) := ixArr (A.length + 1) 3 (k := 0) (by decide)
                    repeat (first | refine tr_seq_k fun _ _ => ?_ | (refine tr_region ?_; simp only [go_sem, reduceCtorEq, Nat.reduceEqDiff, Nat.reduceLT, Nat.reduceLeDiff, Nat.reduceAdd, Nat.reduceMul, Nat.reduceSub, Nat.reduceBEq, ↓reduceIte, g, g', t, s_set, List.length_set, List.length_append, List.length_cons, List.length_nil, List.append_assoc, List.cons_append, List.nil_append, sa_get0, sa_get1, sa_set0, sa_set1, w1, ixa]) | (refine tr_draw (id := 12) follows 8 [3, 8] [0, 1, 2, 4, 6, 3, 5, 7, 8] (by kernel_rfl) ?_; simp only [go_sem, reduceCtorEq, Nat.reduceEqDiff, Nat.reduceLT, Nat.reduceLeDiff, Nat.reduceAdd, Nat.reduceMul, Nat.reduceSub, Nat.reduceBEq, ↓reduceIte, g, g', t, s_set, List.length_set, List.length_append, List.length_cons, List.length_nil, List.append_assoc, List.cons_append, List.nil_append, sa_get0, sa_get1, sa_set0, sa_set1, w1, ixa]) | (refine call_of (cV) ?_ ?_; (first | rfl | simp only [go_sem, reduceCtorEq, Nat.reduceEqDiff, Nat.reduceLT, Nat.reduceLeDiff, Nat.reduceAdd, Nat.reduceMul, Nat.reduceSub, Nat.reduceBEq, ↓reduceIte, g, g', t, s_set, List.length_set, List.length_append, List.length_cons, List.length_nil, List.append_assoc, List.cons_append, List.nil_append, sa_get0, sa_get1, sa_set0, sa_set1, w1, ixa, shut_col]); simp only [go_sem, reduceCtorEq, Nat.reduceEqDiff, Nat.reduceLT, Nat.reduceLeDiff, Nat.reduceAdd, Nat.reduceMul, Nat.reduceSub, Nat.reduceBEq, ↓reduceIte, g, g', t, s_set, List.length_set, List.length_append, List.length_cons, List.length_nil, List.append_assoc, List.cons_append, List.nil_append, sa_get0, sa_get1, sa_set0, sa_set1, w1, ixa]) | refine k_of (by assumption) ?_)
                    cases h5 : isT L r3 kCom with
                    | true =>
                      rw [h5, if_pos rfl] at cC
                      rw [h5, if_pos rfl] at hS
                      repeat ((refine call_givesW (cC) ?_; (try dsimp only); (try simp only [go_sem, reduceCtorEq, Nat.reduceEqDiff, Nat.reduceLT, Nat.reduceLeDiff, Nat.reduceAdd, Nat.reduceMul, Nat.reduceSub, Nat.reduceBEq, ↓reduceIte, g, g', t, s_set, List.length_set, List.length_append, List.length_cons, List.length_nil, List.append_assoc, List.cons_append, List.nil_append, sa_get0, sa_get1, sa_set0, sa_set1])))
                      exact hK (true, f, r3.adv, [(⟨pvariable s, s⟩ : Tm)]) _ _ ⟨fun _ => ⟨hS, by simp only [List.length_cons, List.length_nil] at hlen ⊢; omega, by simp⟩, (fun h => by cases h)⟩ ⟨⟨rfl, rfl, rfl, rfl, trivial⟩, Keep.refl _, by simp only [lowF, low, List.length_append, List.length_set, List.length_cons, List.length_nil, Nat.blt_eq, Bool.and_eq_true, and_true]; omega, by simp only [List.length_append, List.length_set, List.length_cons, List.length_nil]; exact low_ext hW (by omega) rfl rfl, by simp only [List.length_append, List.length_set]; exact Nat.le_refl _, Nat.le_refl _⟩ (by simp)
                    | false =>
                      rw [h5, if_neg Bool.false_ne_true] at cC
                      rw [h5, if_neg Bool.false_ne_true] at hS
                      repeat ((refine call_givesW (cC) ?_; (try dsimp only); (try simp only [go_sem, reduceCtorEq, Nat.reduceEqDiff, Nat.reduceLT, Nat.reduceLeDiff, Nat.reduceAdd, Nat.reduceMul, Nat.reduceSub, Nat.reduceBEq, ↓reduceIte, g, g', t, s_set, List.length_set, List.length_append, List.length_cons, List.length_nil, List.append_assoc, List.cons_append, List.nil_append, sa_get0, sa_get1, sa_set0, sa_set1])))
                      exact hK (false, f, r3, [(⟨pvariable s, s⟩ : Tm)]) _ _ ⟨(fun h => by cases h), fun _ => hS⟩ ⟨⟨rfl, rfl, rfl, rfl, trivial⟩, Keep.refl _, by simp only [lowF, low, List.length_append, List.length_set, List.length_cons, List.length_nil, Nat.blt_eq, Bool.and_eq_true, and_true]; omega, by simp only [List.length_append, List.length_set, List.length_cons, List.length_nil]; exact low_ext hW (by omega) rfl rfl, by simp only [List.length_append, List.length_set]; exact Nat.le_refl _, Nat.le_refl _⟩ (by simp)
                  · rw [show atX says p [a] = [.c (.v (.string says)), .c (.v (.string p)), .c (.v (.int .i64 1)), .c (.v (.bool a.v)), .c (.v (.string a.name)), .c (.v (.bool noT.v)), .c (.v (.string noT.name)), .c (.v (.bool noT.v)), .c (.v (.string noT.name)), .c (.v (.bool noT.v)), .c (.v (.string noT.name))] from rfl]
                    have w1 : IntKind.i64.wrap ((1 : Int) + 1) = 2 := by decide
                    have ixa : aIndexAddr Try.prog 38 (.ptr (A.length + 1) 3) (.c (.v (.int .i64 1))) = some (.ptr (A.length + 1) 5) := ixArr (A.length + 1) 3 (k := 1) (by decide)
                    repeat (first | refine tr_seq_k fun _ _ => ?_ | (refine tr_region ?_; simp only [go_sem, reduceCtorEq, Nat.reduceEqDiff, Nat.reduceLT, Nat.reduceLeDiff, Nat.reduceAdd, Nat.reduceMul, Nat.reduceSub, Nat.reduceBEq, ↓reduceIte, g, g', t, s_set, List.length_set, List.length_append, List.length_cons, List.length_nil, List.append_assoc, List.cons_append, List.nil_append, sa_get0, sa_get1, sa_set0, sa_set1, w1, ixa]) | (refine tr_draw (id := 12) follows 8 [3, 8] [0, 1, 2, 4, 6, 3, 5, 7, 8] (by kernel_rfl) ?_; simp only [go_sem, reduceCtorEq, Nat.reduceEqDiff, Nat.reduceLT, Nat.reduceLeDiff, Nat.reduceAdd, Nat.reduceMul, Nat.reduceSub, Nat.reduceBEq, ↓reduceIte, g, g', t, s_set, List.length_set, List.length_append, List.length_cons, List.length_nil, List.append_assoc, List.cons_append, List.nil_append, sa_get0, sa_get1, sa_set0, sa_set1, w1, ixa]) | (refine call_of (cV) ?_ ?_; (first | rfl | simp only [go_sem, reduceCtorEq, Nat.reduceEqDiff, Nat.reduceLT, Nat.reduceLeDiff, Nat.reduceAdd, Nat.reduceMul, Nat.reduceSub, Nat.reduceBEq, ↓reduceIte, g, g', t, s_set, List.length_set, List.length_append, List.length_cons, List.length_nil, List.append_assoc, List.cons_append, List.nil_append, sa_get0, sa_get1, sa_set0, sa_set1, w1, ixa, shut_col]); simp only [go_sem, reduceCtorEq, Nat.reduceEqDiff, Nat.reduceLT, Nat.reduceLeDiff, Nat.reduceAdd, Nat.reduceMul, Nat.reduceSub, Nat.reduceBEq, ↓reduceIte, g, g', t, s_set, List.length_set, List.length_append, List.length_cons, List.length_nil, List.append_assoc, List.cons_append, List.nil_append, sa_get0, sa_get1, sa_set0, sa_set1, w1, ixa]) | refine k_of (by assumption) ?_)
                    cases h5 : isT L r3 kCom with
                    | true =>
                      rw [h5, if_pos rfl] at cC
                      rw [h5, if_pos rfl] at hS
                      repeat ((refine call_givesW (cC) ?_; (try dsimp only); (try simp only [go_sem, reduceCtorEq, Nat.reduceEqDiff, Nat.reduceLT, Nat.reduceLeDiff, Nat.reduceAdd, Nat.reduceMul, Nat.reduceSub, Nat.reduceBEq, ↓reduceIte, g, g', t, s_set, List.length_set, List.length_append, List.length_cons, List.length_nil, List.append_assoc, List.cons_append, List.nil_append, sa_get0, sa_get1, sa_set0, sa_set1])))
                      exact hK (true, f, r3.adv, [a, (⟨pvariable s, s⟩ : Tm)]) _ _ ⟨fun _ => ⟨hS, by simp only [List.length_cons, List.length_nil] at hlen ⊢; omega, by simp⟩, (fun h => by cases h)⟩ ⟨⟨rfl, rfl, rfl, rfl, trivial⟩, Keep.refl _, by simp only [lowF, low, List.length_append, List.length_set, List.length_cons, List.length_nil, Nat.blt_eq, Bool.and_eq_true, and_true]; omega, by simp only [List.length_append, List.length_set, List.length_cons, List.length_nil]; exact low_ext hW (by omega) rfl rfl, by simp only [List.length_append, List.length_set]; exact Nat.le_refl _, Nat.le_refl _⟩ (by simp)
                    | false =>
                      rw [h5, if_neg Bool.false_ne_true] at cC
                      rw [h5, if_neg Bool.false_ne_true] at hS
                      repeat ((refine call_givesW (cC) ?_; (try dsimp only); (try simp only [go_sem, reduceCtorEq, Nat.reduceEqDiff, Nat.reduceLT, Nat.reduceLeDiff, Nat.reduceAdd, Nat.reduceMul, Nat.reduceSub, Nat.reduceBEq, ↓reduceIte, g, g', t, s_set, List.length_set, List.length_append, List.length_cons, List.length_nil, List.append_assoc, List.cons_append, List.nil_append, sa_get0, sa_get1, sa_set0, sa_set1])))
                      exact hK (false, f, r3, [a, (⟨pvariable s, s⟩ : Tm)]) _ _ ⟨(fun h => by cases h), fun _ => hS⟩ ⟨⟨rfl, rfl, rfl, rfl, trivial⟩, Keep.refl _, by simp only [lowF, low, List.length_append, List.length_set, List.length_cons, List.length_nil, Nat.blt_eq, Bool.and_eq_true, and_true]; omega, by simp only [List.length_append, List.length_set, List.length_cons, List.length_nil]; exact low_ext hW (by omega) rfl rfl, by simp only [List.length_append, List.length_set]; exact Nat.le_refl _, Nat.le_refl _⟩ (by simp)
                  · rw [show atX says p [a, c] = [.c (.v (.string says)), .c (.v (.string p)), .c (.v (.int .i64 2)), .c (.v (.bool a.v)), .c (.v (.string a.name)), .c (.v (.bool c.v)), .c (.v (.string c.name)), .c (.v (.bool noT.v)), .c (.v (.string noT.name)), .c (.v (.bool noT.v)), .c (.v (.string noT.name))] from rfl]
                    have w1 : IntKind.i64.wrap ((2 : Int) + 1) = 3 := by decide
                    have ixa : aIndexAddr Try.prog 38 (.ptr (A.length + 1) 3) (.c (.v (.int .i64 2))) = some (.ptr (A.length + 1) 7) := ixArr (A.length + 1) 3 (k := 2) (by decide)
                    repeat (first | refine tr_seq_k fun _ _ => ?_ | (refine tr_region ?_; simp only [go_sem, reduceCtorEq, Nat.reduceEqDiff, Nat.reduceLT, Nat.reduceLeDiff, Nat.reduceAdd, Nat.reduceMul, Nat.reduceSub, Nat.reduceBEq, ↓reduceIte, g, g', t, s_set, List.length_set, List.length_append, List.length_cons, List.length_nil, List.append_assoc, List.cons_append, List.nil_append, sa_get0, sa_get1, sa_set0, sa_set1, w1, ixa]) | (refine tr_draw (id := 12) follows 8 [3, 8] [0, 1, 2, 4, 6, 3, 5, 7, 8] (by kernel_rfl) ?_; simp only [go_sem, reduceCtorEq, Nat.reduceEqDiff, Nat.reduceLT, Nat.reduceLeDiff, Nat.reduceAdd, Nat.reduceMul, Nat.reduceSub, Nat.reduceBEq, ↓reduceIte, g, g', t, s_set, List.length_set, List.length_append, List.length_cons, List.length_nil, List.append_assoc, List.cons_append, List.nil_append, sa_get0, sa_get1, sa_set0, sa_set1, w1, ixa]) | (refine call_of (cV) ?_ ?_; (first | rfl | simp only [go_sem, reduceCtorEq, Nat.reduceEqDiff, Nat.reduceLT, Nat.reduceLeDiff, Nat.reduceAdd, Nat.reduceMul, Nat.reduceSub, Nat.reduceBEq, ↓reduceIte, g, g', t, s_set, List.length_set, List.length_append, List.length_cons, List.length_nil, List.append_assoc, List.cons_append, List.nil_append, sa_get0, sa_get1, sa_set0, sa_set1, w1, ixa, shut_col]); simp only [go_sem, reduceCtorEq, Nat.reduceEqDiff, Nat.reduceLT, Nat.reduceLeDiff, Nat.reduceAdd, Nat.reduceMul, Nat.reduceSub, Nat.reduceBEq, ↓reduceIte, g, g', t, s_set, List.length_set, List.length_append, List.length_cons, List.length_nil, List.append_assoc, List.cons_append, List.nil_append, sa_get0, sa_get1, sa_set0, sa_set1, w1, ixa]) | refine k_of (by assumption) ?_)
                    cases h5 : isT L r3 kCom with
                    | true =>
                      rw [h5, if_pos rfl] at cC
                      rw [h5, if_pos rfl] at hS
                      repeat ((refine call_givesW (cC) ?_; (try dsimp only); (try simp only [go_sem, reduceCtorEq, Nat.reduceEqDiff, Nat.reduceLT, Nat.reduceLeDiff, Nat.reduceAdd, Nat.reduceMul, Nat.reduceSub, Nat.reduceBEq, ↓reduceIte, g, g', t, s_set, List.length_set, List.length_append, List.length_cons, List.length_nil, List.append_assoc, List.cons_append, List.nil_append, sa_get0, sa_get1, sa_set0, sa_set1])))
                      exact hK (true, f, r3.adv, [a, c, (⟨pvariable s, s⟩ : Tm)]) _ _ ⟨fun _ => ⟨hS, by simp only [List.length_cons, List.length_nil] at hlen ⊢; omega, by simp⟩, (fun h => by cases h)⟩ ⟨⟨rfl, rfl, rfl, rfl, trivial⟩, Keep.refl _, by simp only [lowF, low, List.length_append, List.length_set, List.length_cons, List.length_nil, Nat.blt_eq, Bool.and_eq_true, and_true]; omega, by simp only [List.length_append, List.length_set, List.length_cons, List.length_nil]; exact low_ext hW (by omega) rfl rfl, by simp only [List.length_append, List.length_set]; exact Nat.le_refl _, Nat.le_refl _⟩ (by simp)
                    | false =>
                      rw [h5, if_neg Bool.false_ne_true] at cC
                      rw [h5, if_neg Bool.false_ne_true] at hS
                      repeat ((refine call_givesW (cC) ?_; (try dsimp only); (try simp only [go_sem, reduceCtorEq, Nat.reduceEqDiff, Nat.reduceLT, Nat.reduceLeDiff, Nat.reduceAdd, Nat.reduceMul, Nat.reduceSub, Nat.reduceBEq, ↓reduceIte, g, g', t, s_set, List.length_set, List.length_append, List.length_cons, List.length_nil, List.append_assoc, List.cons_append, List.nil_append, sa_get0, sa_get1, sa_set0, sa_set1])))
                      exact hK (false, f, r3, [a, c, (⟨pvariable s, s⟩ : Tm)]) _ _ ⟨(fun h => by cases h), fun _ => hS⟩ ⟨⟨rfl, rfl, rfl, rfl, trivial⟩, Keep.refl _, by simp only [lowF, low, List.length_append, List.length_set, List.length_cons, List.length_nil, Nat.blt_eq, Bool.and_eq_true, and_true]; omega, by simp only [List.length_append, List.length_set, List.length_cons, List.length_nil]; exact low_ext hW (by omega) rfl rfl, by simp only [List.length_append, List.length_set]; exact Nat.le_refl _, Nat.le_refl _⟩ (by simp)
                  · rw [show atX says p [a, c, d] = [.c (.v (.string says)), .c (.v (.string p)), .c (.v (.int .i64 3)), .c (.v (.bool a.v)), .c (.v (.string a.name)), .c (.v (.bool c.v)), .c (.v (.string c.name)), .c (.v (.bool d.v)), .c (.v (.string d.name)), .c (.v (.bool noT.v)), .c (.v (.string noT.name))] from rfl]
                    have w1 : IntKind.i64.wrap ((3 : Int) + 1) = 4 := by decide
                    have ixa : aIndexAddr Try.prog 38 (.ptr (A.length + 1) 3) (.c (.v (.int .i64 3))) = some (.ptr (A.length + 1) 9) := ixArr (A.length + 1) 3 (k := 3) (by decide)
                    repeat (first | refine tr_seq_k fun _ _ => ?_ | (refine tr_region ?_; simp only [go_sem, reduceCtorEq, Nat.reduceEqDiff, Nat.reduceLT, Nat.reduceLeDiff, Nat.reduceAdd, Nat.reduceMul, Nat.reduceSub, Nat.reduceBEq, ↓reduceIte, g, g', t, s_set, List.length_set, List.length_append, List.length_cons, List.length_nil, List.append_assoc, List.cons_append, List.nil_append, sa_get0, sa_get1, sa_set0, sa_set1, w1, ixa]) | (refine tr_draw (id := 12) follows 8 [3, 8] [0, 1, 2, 4, 6, 3, 5, 7, 8] (by kernel_rfl) ?_; simp only [go_sem, reduceCtorEq, Nat.reduceEqDiff, Nat.reduceLT, Nat.reduceLeDiff, Nat.reduceAdd, Nat.reduceMul, Nat.reduceSub, Nat.reduceBEq, ↓reduceIte, g, g', t, s_set, List.length_set, List.length_append, List.length_cons, List.length_nil, List.append_assoc, List.cons_append, List.nil_append, sa_get0, sa_get1, sa_set0, sa_set1, w1, ixa]) | (refine call_of (cV) ?_ ?_; (first | rfl | simp only [go_sem, reduceCtorEq, Nat.reduceEqDiff, Nat.reduceLT, Nat.reduceLeDiff, Nat.reduceAdd, Nat.reduceMul, Nat.reduceSub, Nat.reduceBEq, ↓reduceIte, g, g', t, s_set, List.length_set, List.length_append, List.length_cons, List.length_nil, List.append_assoc, List.cons_append, List.nil_append, sa_get0, sa_get1, sa_set0, sa_set1, w1, ixa, shut_col]); simp only [go_sem, reduceCtorEq, Nat.reduceEqDiff, Nat.reduceLT, Nat.reduceLeDiff, Nat.reduceAdd, Nat.reduceMul, Nat.reduceSub, Nat.reduceBEq, ↓reduceIte, g, g', t, s_set, List.length_set, List.length_append, List.length_cons, List.length_nil, List.append_assoc, List.cons_append, List.nil_append, sa_get0, sa_get1, sa_set0, sa_set1, w1, ixa]) | refine k_of (by assumption) ?_)
                    cases h5 : isT L r3 kCom with
                    | true =>
                      rw [h5, if_pos rfl] at cC
                      rw [h5, if_pos rfl] at hS
                      repeat ((refine call_givesW (cC) ?_; (try dsimp only); (try simp only [go_sem, reduceCtorEq, Nat.reduceEqDiff, Nat.reduceLT, Nat.reduceLeDiff, Nat.reduceAdd, Nat.reduceMul, Nat.reduceSub, Nat.reduceBEq, ↓reduceIte, g, g', t, s_set, List.length_set, List.length_append, List.length_cons, List.length_nil, List.append_assoc, List.cons_append, List.nil_append, sa_get0, sa_get1, sa_set0, sa_set1])))
                      exact hK (true, f, r3.adv, [a, c, d, (⟨pvariable s, s⟩ : Tm)]) _ _ ⟨fun _ => ⟨hS, by simp only [List.length_cons, List.length_nil] at hlen ⊢; omega, by simp⟩, (fun h => by cases h)⟩ ⟨⟨rfl, rfl, rfl, rfl, trivial⟩, Keep.refl _, by simp only [lowF, low, List.length_append, List.length_set, List.length_cons, List.length_nil, Nat.blt_eq, Bool.and_eq_true, and_true]; omega, by simp only [List.length_append, List.length_set, List.length_cons, List.length_nil]; exact low_ext hW (by omega) rfl rfl, by simp only [List.length_append, List.length_set]; exact Nat.le_refl _, Nat.le_refl _⟩ (by simp)
                    | false =>
                      rw [h5, if_neg Bool.false_ne_true] at cC
                      rw [h5, if_neg Bool.false_ne_true] at hS
                      repeat ((refine call_givesW (cC) ?_; (try dsimp only); (try simp only [go_sem, reduceCtorEq, Nat.reduceEqDiff, Nat.reduceLT, Nat.reduceLeDiff, Nat.reduceAdd, Nat.reduceMul, Nat.reduceSub, Nat.reduceBEq, ↓reduceIte, g, g', t, s_set, List.length_set, List.length_append, List.length_cons, List.length_nil, List.append_assoc, List.cons_append, List.nil_append, sa_get0, sa_get1, sa_set0, sa_set1])))
                      exact hK (false, f, r3, [a, c, d, (⟨pvariable s, s⟩ : Tm)]) _ _ ⟨(fun h => by cases h), fun _ => hS⟩ ⟨⟨rfl, rfl, rfl, rfl, trivial⟩, Keep.refl _, by simp only [lowF, low, List.length_append, List.length_set, List.length_cons, List.length_nil, Nat.blt_eq, Bool.and_eq_true, and_true]; omega, by simp only [List.length_append, List.length_set, List.length_cons, List.length_nil]; exact low_ext hW (by omega) rfl rfl, by simp only [List.length_append, List.length_set]; exact Nat.le_refl _, Nat.le_refl _⟩ (by simp)
                · cases hf
            · cases hf
end Go.Proofs.Ytinbfakpjnnagaa
namespace Go.Proofs.Ytinbfakpjnnagaa
open Go.RowKit Go.Vs Go.Vs.Ab
set_option maxRecDepth 100000
set_option maxHeartbeats 4000000
variable {A : List Blk} {hw : List Hw} {b : Nat} {ex : Bool} {L : List Tk} {n : Int}
theorem said_gives (hb : b < A.length) (hL : TkOk L) (r : Rs) (says : ByteArray) : GivesW Try.prog 56 [.ptr b 0, sA says] ⟨A.set b (rdB ex L n r), hw⟩ (atA (saidF L n r says).2) ⟨A.set b (rdB ex L n (saidF L n r says).1), hw⟩ := by
  obtain ⟨y, z, h⟩ := said_raw (hw := hw) (ex := ex) (n := n) hb hL r says
  refine h.trim ⟨⟨[y, z], rfl⟩, ⟨[], (List.append_nil _).symm⟩⟩ (fun hl => ?_) (by simp) (Nat.le_refl _) (cut_shut rfl)
  simp only [List.length_set] at hl ⊢
  exact low_re hl rfl
theorem atom_raw (hb : b < A.length) (hL : TkOk L) (r : Rs) : ∃ y : Blk, GivesW Try.prog 67 [.ptr b 0] ⟨A.set b (rdB ex L n r), hw⟩ (atA (atomF L n r).2) ⟨A.set b (rdB ex L n (atomF L n r).1) ++ [y], hw⟩ := by
  have c1 := withE (fun A' hb' => next_gives (A := A') (hw := hw) (ex := ex) (n := n) hb' hL r 0 (by omega)) hb [atZ0]
  have c2 := withE (fun A' hb' => must_gives (A := A') (hw := hw) (ex := ex) (n := n) hb' hL.len (nextR L n r 0) kSays) hb [atZ0]
  have c3 := withE (fun A' hb' => said_gives (A := A') (hw := hw) (ex := ex) (n := n) hb' hL (mustT L n (nextR L n r 0) kSays) (nextS L r 0)) hb [atZ0]
  unfold atomF
  generalize saidF L n (mustT L n (nextR L n r 0) kSays) (nextS L r 0) = q at *
  obtain ⟨r3, a⟩ := q
  dsimp only at *
  refine ⟨⟨false, ([.c (.v (.string a.says)), .c (.v (.string a.pred)), .c (.v (.int .i64 a.n)), .c (.v (.bool a.a0.v)), .c (.v (.string a.a0.name)), .c (.v (.bool a.a1.v)), .c (.v (.string a.a1.name)), .c (.v (.bool a.a2.v)), .c (.v (.string a.a2.name)), .c (.v (.bool a.a3.v)), .c (.v (.string a.a3.name))] : List AV)⟩, ?_⟩
  refine givesW_of' Try.func67 rfl (by kernel_rfl) Try.ntmps67 rfl rfl fun Q hQ => ?_
  repeat (first | refine tr_seq_k fun _ _ => ?_ | (refine tr_region ?_; simp only [go_sem, reduceCtorEq, Nat.reduceEqDiff, Nat.reduceLT, Nat.reduceLeDiff, Nat.reduceAdd, Nat.reduceMul, Nat.reduceSub, Nat.reduceBEq, ↓reduceIte, s_set, List.length_set, List.length_append, List.length_cons, List.length_nil, List.append_assoc, List.cons_append, List.nil_append, sa_get0, sa_get1, sa_set0, sa_set1]) | (refine call_givesW (c1) ?_; (try dsimp only); (try simp only [go_sem, reduceCtorEq, Nat.reduceEqDiff, Nat.reduceLT, Nat.reduceLeDiff, Nat.reduceAdd, Nat.reduceMul, Nat.reduceSub, Nat.reduceBEq, ↓reduceIte, s_set, List.length_set, List.length_append, List.length_cons, List.length_nil, List.append_assoc, List.cons_append, List.nil_append, sa_get0, sa_get1, sa_set0, sa_set1])) | (refine call_givesW (c2) ?_; (try dsimp only); (try simp only [go_sem, reduceCtorEq, Nat.reduceEqDiff, Nat.reduceLT, Nat.reduceLeDiff, Nat.reduceAdd, Nat.reduceMul, Nat.reduceSub, Nat.reduceBEq, ↓reduceIte, s_set, List.length_set, List.length_append, List.length_cons, List.length_nil, List.append_assoc, List.cons_append, List.nil_append, sa_get0, sa_get1, sa_set0, sa_set1])) | (refine call_givesW (c3) ?_; (try dsimp only); (try simp only [go_sem, reduceCtorEq, Nat.reduceEqDiff, Nat.reduceLT, Nat.reduceLeDiff, Nat.reduceAdd, Nat.reduceMul, Nat.reduceSub, Nat.reduceBEq, ↓reduceIte, s_set, List.length_set, List.length_append, List.length_cons, List.length_nil, List.append_assoc, List.cons_append, List.nil_append, sa_get0, sa_get1, sa_set0, sa_set1])) | refine k_of (by assumption) ?_ | (refine tr_ret ?_; try simp only [ex_seq_ret, ex_block_ret]))
  refine (hQ _ _ [.agg [.v (.string a.says), .v (.string a.pred), .v (.int .i64 a.n), .v (.bool a.a0.v), .v (.string a.a0.name), .v (.bool a.a1.v), .v (.string a.a1.name), .v (.bool a.a2.v), .v (.string a.a2.name), .v (.bool a.a3.v), .v (.string a.a3.name)]] ?_ rfl rfl).2 <;> simp only [go_sem, reduceCtorEq, Nat.reduceEqDiff, Nat.reduceLT, Nat.reduceLeDiff, Nat.reduceAdd, Nat.reduceMul, Nat.reduceSub, Nat.reduceBEq, ↓reduceIte, Try.f67, s_set, List.length_set, List.length_append, List.length_cons, List.length_nil, List.append_assoc, List.cons_append, List.nil_append, sa_get0, sa_get1, sa_set0, sa_set1]
theorem atom_gives (hb : b < A.length) (hL : TkOk L) (r : Rs) : GivesW Try.prog 67 [.ptr b 0] ⟨A.set b (rdB ex L n r), hw⟩ (atA (atomF L n r).2) ⟨A.set b (rdB ex L n (atomF L n r).1), hw⟩ := by
  obtain ⟨y, h⟩ := atom_raw (hw := hw) (ex := ex) (n := n) hb hL r
  refine h.trim ⟨⟨[y], rfl⟩, ⟨[], (List.append_nil _).symm⟩⟩ (fun hl => ?_) (by simp) (Nat.le_refl _) (cut_shut rfl)
  simp only [List.length_set] at hl ⊢
  exact low_re hl rfl
/-! ### bodies -/
theorem bodyL_succ (L : List Tk) (n : Int) (f : Nat) (r : Rs) (out : List Atm) : bodyL L n (f + 1) r out =
    if r.e = 0 then
      if isT L (atomF L n r).1 kCom then bodyL L n f (atomF L n r).1.adv (out ++ [(atomF L n r).2])
      else ((atomF L n r).1, out ++ [(atomF L n r).2])
    else (r, out) := rfl
theorem low_colW {T : Type} (enc : T → List CV) (e : TypeId) (size : Nat) (l : List T) (hw : List Hw) (i : Nat) : low i (hw ++ colH e size l).length (colA enc hw.length l) = true := by
  cases l with
  | nil => rfl
  | cons x l => simp only [colA, colH, low, List.length_append, List.length_singleton, Nat.blt_eq]; omega
theorem appAw (hp : List Blk) (hw : List Hw) (l : List Atm) (a : Atm) (hl : l.length ≤ 10000000) : aAppend Try.prog ⟨hp, hw ++ colH 40 11 l⟩ 41 (colA atC hw.length l) (.c (.sl true 1 [.v (.string a.says), .v (.string a.pred), .v (.int .i64 a.n), .v (.bool a.a0.v), .v (.string a.a0.name), .v (.bool a.a1.v), .v (.string a.a1.name), .v (.bool a.a2.v), .v (.string a.a2.name), .v (.bool a.a3.v), .v (.string a.a3.name)])) = some (colA atC hw.length (l ++ [a]), ⟨hp, hw ++ colH 40 11 (l ++ [a])⟩) :=
  app_col (P := Try.prog) atC (size := 11) (fun _ => rfl) Try.underlying41 info_a (hp := hp) (l := l) (x := a) (ex := true) (Nat.le_trans (show _ ≤ 10000001 by omega) (by decide)) (by omega)
theorem body_raw (hb : b < A.length) (hL : TkOk L) (r : Rs) (hr : r.i ≤ L.length) : GivesW Try.prog 57 [.ptr b 0] ⟨A.set b (rdB ex L n r), hw⟩ (colA atC hw.length (bodyF L n r).2) ⟨A.set b (rdB ex L n (bodyF L n r).1), hw ++ colH 40 11 (bodyF L n r).2⟩ := by
  have g := fun x => s_get (A := A) hb x
  have cM := maybe_gives (hw := hw) (ex := ex) (n := n) hb hL.len r kIf
  have hlen := hL.len
  unfold bodyF
  unfold maybeR at cM
  cases h1 : isT L r kIf with
  | false =>
    rw [h1, if_neg Bool.false_ne_true] at cM
    rw [if_neg Bool.false_ne_true]
    refine givesW_of' Try.func57 rfl (by kernel_rfl) Try.ntmps57 rfl rfl fun Q hQ => ?_
    repeat (first | refine tr_seq_k fun _ _ => ?_ | (refine tr_region ?_; simp only [go_sem, reduceCtorEq, Nat.reduceEqDiff, Nat.reduceLT, Nat.reduceLeDiff, Nat.reduceAdd, Nat.reduceMul, Nat.reduceSub, Nat.reduceBEq, ↓reduceIte]) | (refine call_givesW (cM) ?_; (try dsimp only); (try simp only [go_sem, reduceCtorEq, Nat.reduceEqDiff, Nat.reduceLT, Nat.reduceLeDiff, Nat.reduceAdd, Nat.reduceMul, Nat.reduceSub, Nat.reduceBEq, ↓reduceIte])) | refine k_of (by assumption) ?_)
    refine tr_cond rfl (fun ht => ?_) (fun hf => ?_)
    · repeat (first | refine tr_seq_k fun _ _ => ?_ | (refine tr_region ?_; simp only [go_sem, reduceCtorEq, Nat.reduceEqDiff, Nat.reduceLT, Nat.reduceLeDiff, Nat.reduceAdd, Nat.reduceMul, Nat.reduceSub, Nat.reduceBEq, ↓reduceIte]) | refine k_of (by assumption) ?_ | (refine tr_ret ?_; try simp only [ex_seq_ret, ex_block_ret]))
      refine (hQ _ _ [.c (.sl true 0 [])] ?_ rfl (by simp [colH])).2 <;> simp only [go_sem, reduceCtorEq, Nat.reduceEqDiff, Nat.reduceLT, Nat.reduceLeDiff, Nat.reduceAdd, Nat.reduceMul, Nat.reduceSub, Nat.reduceBEq, ↓reduceIte, Try.f57]
    · cases hf
  | true =>
    have hlt := (isT_lt h1).2
    rw [h1, if_pos rfl] at cM
    rw [if_pos rfl]
    obtain ⟨T, hT⟩ : ∃ T, T = bodyL L n (L.length + 1) r.adv [] := ⟨_, rfl⟩
    rw [← hT]
    refine givesW_of' Try.func57 rfl (by kernel_rfl) Try.ntmps57 rfl rfl fun Q hQ => ?_
    refine tr_low fun hW => ?_
    rw [List.length_set] at hW
    have hWk : ∀ (l : List Atm) (x : Rs), lowB A.length (hw ++ colH 40 11 l).length (A.set b (rdB ex L n x)) = true := fun l x => low_re (lowB_up (Nat.le_refl _) (by rw [List.length_append]; exact Nat.le_add_right _ _) hW) rfl
    repeat (first | refine tr_seq_k fun _ _ => ?_ | (refine tr_region ?_; simp only [go_sem, reduceCtorEq, Nat.reduceEqDiff, Nat.reduceLT, Nat.reduceLeDiff, Nat.reduceAdd, Nat.reduceMul, Nat.reduceSub, Nat.reduceBEq, ↓reduceIte]) | (refine call_givesW (cM) ?_; (try dsimp only); (try simp only [go_sem, reduceCtorEq, Nat.reduceEqDiff, Nat.reduceLT, Nat.reduceLeDiff, Nat.reduceAdd, Nat.reduceMul, Nat.reduceSub, Nat.reduceBEq, ↓reduceIte])) | refine k_of (by assumption) ?_)
    refine tr_cond rfl (fun ht => ?_) (fun hf => ?_)
    · cases ht
    repeat (first | refine tr_seq_k fun _ _ => ?_ | (refine tr_region ?_; simp only [go_sem, reduceCtorEq, Nat.reduceEqDiff, Nat.reduceLT, Nat.reduceLeDiff, Nat.reduceAdd, Nat.reduceMul, Nat.reduceSub, Nat.reduceBEq, ↓reduceIte]) | refine k_of (by assumption) ?_ | refine tr_block ?_ | (refine tr_skip ?_; try simp only [ex_seq, ex_block]))
    refine tr_loop_k (σ := Bool × Nat × Rs × List Atm) (fun q => [(0, .ptr b 0), (3, colA atC hw.length q.2.2.2), (4, bA q.1)]) (fun q => ⟨A.set b (rdB ex L n q.2.2.1), hw ++ colH 40 11 q.2.2.2⟩)
      (fun q => (q.1 = true → bodyL L n q.2.1 q.2.2.1 q.2.2.2 = T ∧ L.length < q.2.1 + q.2.2.1.i ∧ q.2.2.1.i ≤ L.length ∧ q.2.2.2.length + q.2.1 ≤ L.length + 1) ∧ (q.1 = false → (q.2.2.1, q.2.2.2) = T)) (fun q => if q.1 then q.2.1 + 1 else 0) (true, L.length + 1, r.adv, []) ⟨fun _ => ⟨hT.symm, by dsimp only; omega, hlt, by dsimp only [List.length_nil]; omega⟩, (fun h => by cases h)⟩ ⟨rfl, rfl, rfl, trivial⟩ (by simp [colH]) ?_
    rintro ⟨more, f, r2, out⟩ ⟨hI1, hI2⟩ K hK
    dsimp only at hI1 hI2 ⊢
    cases more with
    | false =>
      obtain rfl := hI2 rfl
      repeat (first | refine tr_seq_k fun _ _ => ?_ | (refine tr_region ?_; simp only [go_sem, reduceCtorEq, Nat.reduceEqDiff, Nat.reduceLT, Nat.reduceLeDiff, Nat.reduceAdd, Nat.reduceMul, Nat.reduceSub, Nat.reduceBEq, ↓reduceIte, g]) | refine k_of (by assumption) ?_)
      refine tr_cond rfl (fun ht => ?_) (fun hf => ?_)
      · cases ht
      · repeat (first | refine tr_seq_k fun _ _ => ?_ | (refine tr_region ?_; simp only [go_sem, reduceCtorEq, Nat.reduceEqDiff, Nat.reduceLT, Nat.reduceLeDiff, Nat.reduceAdd, Nat.reduceMul, Nat.reduceSub, Nat.reduceBEq, ↓reduceIte]) | refine k_of (by assumption) ?_ | (refine tr_exit ?_; try simp only [ex_seq_exit, ex_block_exit, Nat.reduceEqDiff, if_true, if_false, ex_seq, ex_block, reduceCtorEq, ↓reduceIte]) | (refine tr_ret ?_; try simp only [ex_seq_ret, ex_block_ret]))
        refine (hQ _ _ [colA atC hw.length out] ?_ rfl rfl).2 <;> simp only [go_sem, reduceCtorEq, Nat.reduceEqDiff, Nat.reduceLT, Nat.reduceLeDiff, Nat.reduceAdd, Nat.reduceMul, Nat.reduceSub, Nat.reduceBEq, ↓reduceIte, Try.f57]
    | true =>
      obtain ⟨hS, hf1, hi1, ho1⟩ := hI1 rfl
      obtain ⟨f, rfl⟩ : ∃ f', f = f' + 1 := ⟨f - 1, by omega⟩
      rw [bodyL_succ] at hS
      cases d1 : decide (r2.e = 0) with
      | false =>
        rw [if_neg (of_decide_eq_false d1)] at hS
        obtain rfl := hS
        repeat (first | refine tr_seq_k fun _ _ => ?_ | (refine tr_region ?_; simp only [go_sem, reduceCtorEq, Nat.reduceEqDiff, Nat.reduceLT, Nat.reduceLeDiff, Nat.reduceAdd, Nat.reduceMul, Nat.reduceSub, Nat.reduceBEq, ↓reduceIte, g, d1]) | refine k_of (by assumption) ?_)
        refine tr_cond rfl (fun ht => ?_) (fun hf => ?_)
        · cases ht
        · repeat (first | refine tr_seq_k fun _ _ => ?_ | (refine tr_region ?_; simp only [go_sem, reduceCtorEq, Nat.reduceEqDiff, Nat.reduceLT, Nat.reduceLeDiff, Nat.reduceAdd, Nat.reduceMul, Nat.reduceSub, Nat.reduceBEq, ↓reduceIte]) | refine k_of (by assumption) ?_ | (refine tr_exit ?_; try simp only [ex_seq_exit, ex_block_exit, Nat.reduceEqDiff, if_true, if_false, ex_seq, ex_block, reduceCtorEq, ↓reduceIte]) | (refine tr_ret ?_; try simp only [ex_seq_ret, ex_block_ret]))
          refine (hQ _ _ [colA atC hw.length out] ?_ rfl rfl).2 <;> simp only [go_sem, reduceCtorEq, Nat.reduceEqDiff, Nat.reduceLT, Nat.reduceLeDiff, Nat.reduceAdd, Nat.reduceMul, Nat.reduceSub, Nat.reduceBEq, ↓reduceIte, Try.f57]
      | true =>
        rw [if_pos (of_decide_eq_true d1)] at hS
        have cA := atom_gives (hw := hw ++ colH 40 11 out) (ex := ex) (n := n) hb hL r2
        have hai := atom_i (L := L) (n := n) (r := r2)
        generalize atomF L n r2 = q at *
        obtain ⟨r3, a⟩ := q
        dsimp only at *
        have ap := appAw (A.set b (rdB ex L n r3)) hw out a (by omega)
        have b1 := build1A a
        have cC := maybe_gives (hw := hw ++ colH 40 11 (out ++ [a])) (ex := ex) (n := n) hb hL.len r3 kCom
        unfold maybeR at cC
        cases h5 : isT L r3 kCom with
        | true =>
          have hlt3 := (isT_lt h5).2
          rw [h5, if_pos rfl] at cC
          rw [h5, if_pos rfl] at hS
          repeat (first | refine tr_seq_k fun _ _ => ?_ | (refine tr_region ?_; simp only [go_sem, reduceCtorEq, Nat.reduceEqDiff, Nat.reduceLT, Nat.reduceLeDiff, Nat.reduceAdd, Nat.reduceMul, Nat.reduceSub, Nat.reduceBEq, ↓reduceIte, g, d1]) | refine k_of (by assumption) ?_)
          refine tr_cond rfl (fun ht => ?_) (fun hf => ?_)
          · repeat (first | refine tr_seq_k fun _ _ => ?_ | (refine tr_region ?_; simp only [go_sem, reduceCtorEq, Nat.reduceEqDiff, Nat.reduceLT, Nat.reduceLeDiff, Nat.reduceAdd, Nat.reduceMul, Nat.reduceSub, Nat.reduceBEq, ↓reduceIte, g, b1, one_max, ap]) | (refine call_givesW (cA) ?_; (try dsimp only); (try simp only [go_sem, reduceCtorEq, Nat.reduceEqDiff, Nat.reduceLT, Nat.reduceLeDiff, Nat.reduceAdd, Nat.reduceMul, Nat.reduceSub, Nat.reduceBEq, ↓reduceIte, g, b1, one_max, ap])) | (refine call_givesW (cC) ?_; (try dsimp only); (try simp only [go_sem, reduceCtorEq, Nat.reduceEqDiff, Nat.reduceLT, Nat.reduceLeDiff, Nat.reduceAdd, Nat.reduceMul, Nat.reduceSub, Nat.reduceBEq, ↓reduceIte, g, b1, one_max, ap])) | refine k_of (by assumption) ?_ | refine tr_block ?_ | (refine tr_skip ?_; try simp only [ex_seq, ex_block]))
            exact hK (true, f, r3.adv, out ++ [a]) _ _ ⟨fun _ => ⟨hS, by show L.length < f + (r3.i + 1); omega, hlt3, by simp only [List.length_append, List.length_cons, List.length_nil]; omega⟩, (fun h => by cases h)⟩ ⟨⟨rfl, rfl, rfl, trivial⟩, Keep.refl _, by simp only [lowF, low_colW, low_ptr, low_c, List.length_set, Nat.blt_eq, Bool.and_eq_true, and_true]; omega, by simp only [List.length_set]; exact hWk _ _, by simp only [List.length_set]; exact Nat.le_refl _, by simp only [List.length_append, colH, List.length_nil]; omega⟩ (by simp)
          · cases hf
        | false =>
          rw [h5, if_neg Bool.false_ne_true] at cC
          rw [h5, if_neg Bool.false_ne_true] at hS
          repeat (first | refine tr_seq_k fun _ _ => ?_ | (refine tr_region ?_; simp only [go_sem, reduceCtorEq, Nat.reduceEqDiff, Nat.reduceLT, Nat.reduceLeDiff, Nat.reduceAdd, Nat.reduceMul, Nat.reduceSub, Nat.reduceBEq, ↓reduceIte, g, d1]) | refine k_of (by assumption) ?_)
          refine tr_cond rfl (fun ht => ?_) (fun hf => ?_)
          · repeat (first | refine tr_seq_k fun _ _ => ?_ | (refine tr_region ?_; simp only [go_sem, reduceCtorEq, Nat.reduceEqDiff, Nat.reduceLT, Nat.reduceLeDiff, Nat.reduceAdd, Nat.reduceMul, Nat.reduceSub, Nat.reduceBEq, ↓reduceIte, g, b1, one_max, ap]) | (refine call_givesW (cA) ?_; (try dsimp only); (try simp only [go_sem, reduceCtorEq, Nat.reduceEqDiff, Nat.reduceLT, Nat.reduceLeDiff, Nat.reduceAdd, Nat.reduceMul, Nat.reduceSub, Nat.reduceBEq, ↓reduceIte, g, b1, one_max, ap])) | (refine call_givesW (cC) ?_; (try dsimp only); (try simp only [go_sem, reduceCtorEq, Nat.reduceEqDiff, Nat.reduceLT, Nat.reduceLeDiff, Nat.reduceAdd, Nat.reduceMul, Nat.reduceSub, Nat.reduceBEq, ↓reduceIte, g, b1, one_max, ap])) | refine k_of (by assumption) ?_ | refine tr_block ?_ | (refine tr_skip ?_; try simp only [ex_seq, ex_block]))
            exact hK (false, f, r3, out ++ [a]) _ _ ⟨(fun h => by cases h), fun _ => hS⟩ ⟨⟨rfl, rfl, rfl, trivial⟩, Keep.refl _, by simp only [lowF, low_colW, low_ptr, low_c, List.length_set, Nat.blt_eq, Bool.and_eq_true, and_true]; omega, by simp only [List.length_set]; exact hWk _ _, by simp only [List.length_set]; exact Nat.le_refl _, by simp only [List.length_append, colH, List.length_nil]; omega⟩ (by simp)
          · cases hf
theorem body_gives (hb : b < A.length) (hL : TkOk L) (r : Rs) (hr : r.i ≤ L.length) : GivesW Try.prog 57 [.ptr b 0] ⟨A.set b (rdB ex L n r), hw⟩ (slT (bodyF L n r).2.isEmpty (bodyF L n r).2) ⟨A.set b (rdB ex L n (bodyF L n r).1), hw⟩ := by
  have h := body_raw (hw := hw) (ex := ex) (n := n) hb hL r hr
  refine h.trim ⟨⟨[], (List.append_nil _).symm⟩, ⟨_, rfl⟩⟩ (fun hl => ?_) (by simp) (Nat.le_refl _) (cut_shut (shut_col _ _ _))
  simp only [List.length_set] at hl ⊢
  exact low_re hl rfl
end Go.Proofs.Ytinbfakpjnnagaa
namespace Go.Vs.Ab
open Go.RowKit
variable {P : Program} {X : Mem} {W0 w w' : World} {m : Mm} {nt : Nat} {md : Region.Mode} {ops : Array Oper} {Q : Exit → Act → World → Prop} {S : World → Prop}
/-! ### the end -/
inductive TI where
  | op (i : Nat)
  | put (i : Nat)
structure Put3 where
  t : TypeId
  x : Nat
  k : Operand
  v : Nat
  d : Nat
  e : Nat
def put3 (nt : Nat) (o1 o2 o3 : Oper) : Option Put3 :=
  match o1.op, o2.op, o3.op, o1.dst, o2.dst, o1.guard, o2.guard, o3.guard with
  | .mapEntry t (.tmp x) k, .extract (.tmp d1) 1, .entryStore t' (.tmp x') (.tmp e1) (.tmp v), some d, some e, none, none, none =>
    if Nat.beq d d1 && (Nat.beq e e1 && (Nat.beq t t' && (Nat.beq x x' && (!Nat.beq x d && (!Nat.beq x e && (!Nat.beq v d && (!Nat.beq v e && (Nat.blt d nt && Nat.blt e nt)))))))) && o3.dst.isNone then some ⟨t, x, k, v, d, e⟩ else none
  | _, _, _, _, _, _, _, _ => none
def aPut3 (P : Program) (fr : Fr) (m : Mm) (t : TypeId) (x : Option AV) (k v : Option Value) : Option Mm :=
  match x, k, v with
  | some p, some a, some b => aMapPutE P m t p a b
  | _, _, _ => none
def PutM (K : Mm → Prop) : Option Mm → Prop
  | some m' => K m'
  | none => False
def PutW3 (P : Program) (fr : Fr) (m : Mm) (K : Mm → Prop) : Option Put3 → Prop
  | some p => find fr p.d = none ∧ find fr p.e = none ∧ PutM K (aPut3 P fr m p.t (find fr p.x) (opdV fr p.k) (opdV fr (.tmp p.v)))
  | none => False
def TailW (P : Program) (nt : Nat) (ops : Array Oper) : List TI → Fr → Mm → (Fr → Mm → Prop) → Prop
  | [], fr, m, Q => Q fr m
  | .op i :: r, fr, m, Q => match ops[i]? with
    | none => False
    | some o => StepW P nt ops o fr m fun _ fr' m' => TailW P nt ops r fr' m' Q
  | .put i :: r, fr, m, Q => match ops[i]?, ops[i + 1]?, ops[i + 2]? with
    | some o1, some o2, some o3 => PutW3 P fr m (fun m' => TailW P nt ops r fr m' Q) (put3 nt o1 o2 o3)
    | _, _, _ => False
/-! ### the region -/
attribute [go_sem] TailW put3 aPut3 PutM PutW3 aMapPutE Option.isNone_none
end Go.Vs.Ab
namespace Go.Vs.Ab
open Go.RowKit
variable {P : Program} {X : Mem} {W0 w w' : World} {m : Mm}
def pureA (P : Program) (fr : Fr) (o : Oper) : Option AV :=
  match o.op with
  | .move x => opd fr x
  | .assign x => opd fr x
  | .pick c a b => match opd fr c with
    | some (.c (.v (.bool t))) => match t with
      | true => opd fr a
      | false => opd fr b
    | _ => none
  | .binOp op t x y _ => match opdV fr x, opdV fr y with
    | some a, some b => av1 (pureVal P (do eqGuard op t x y a b; binOp op t a b))
    | _, _ => none
  | .unOp op _ x => match opdV fr x with
    | some a => av1 (pureVal P (Op.unary op a))
    | none => none
  | .extract x i => match opd fr x with
    | some (.tup vs) => vs[i]?
    | _ => none
  | .nilCheck x => match opd fr x with
    | some (.ptr b off) => some (.ptr b off)
    | _ => none
  | .fieldAddr s x f => match opd fr x with
    | some (.ptr b off) => aFieldAddr P s f (.ptr b off)
    | _ => none
  | .indexAddr t x ix => match opd fr x, opd fr ix with
    | some (.lsl b lo n k), some i => aIndexL P t (.lsl b lo n k) i
    | _, _ => none
  | _ => none
theorem aIndexL_ptr {t : TypeId} {b lo n k : Nat} {i c : AV} (h : aIndexL P t (.lsl b lo n k) i = some c) : ∃ off kk ii, c = .ptr b off ∧ i = .c (.v (.int kk ii)) := by
  unfold aIndexL at h
  split at h
  · rename_i e b' lo' n' k' i' ht hl hi
    injection hl with hl
    injection hl with hl _
    subst hl
    have hint : ∃ kk ii, i = .c (.v (.int kk ii)) := by
      unfold intV at hi
      split at hi
      · exact ⟨_, _, rfl⟩
      · cases hi
    obtain ⟨kk, ii, rfl⟩ := hint
    split at h
    · split at h
      · injection h with h
        exact ⟨_, kk, ii, h.symm, rfl⟩
      · cases h
    · cases h
  · cases h
theorem av1_all {s : Sem Value} {c : AV} (h : av1 (pureVal P s) = some c) : ∃ V, Rep X c V ∧ ∀ w, s.run P w = .ok V w := by
  unfold av1 at h
  cases hp : pureVal P s with
  | none => rw [hp] at h; cases h
  | some v =>
    rw [hp] at h
    exact ⟨v, avOf1_rep h, fun w => pureVal_run hp w⟩
theorem pureA_ok {nt : Nat} {fr : Fr} {a : Act} {o : Oper} {c : AV} (F : FR X nt fr a) (h : pureA P fr o = some c) : ∃ V, Rep X c V ∧ ∀ w, (execOp a.eval o).run P w = .ok (.value V) w := by
  unfold pureA at h
  split at h
  · rename_i x hx
    exact ⟨_, opd_rep F h, fun w => by simp only [execOp, hx, Sem.run_pure]⟩
  · rename_i x hx
    exact ⟨_, opd_rep F h, fun w => by simp only [execOp, hx, Sem.run_pure]⟩
  · rename_i x y z hx
    split at h
    · rename_i t ht
      have hb : a.eval x = .bool t := val_rep rfl (opd_rep F ht)
      cases t with
      | true => exact ⟨_, opd_rep F h, fun w' => by simp [execOp, hx, hb, asBool]⟩
      | false => exact ⟨_, opd_rep F h, fun w' => by simp [execOp, hx, hb, asBool]⟩
    · cases h
  · rename_i op t x y yt hx
    split at h
    · rename_i u v h1 h2
      obtain ⟨V, g1, g2⟩ := av1_all (X := X) h
      refine ⟨V, g1, fun w => ?_⟩
      simp only [execOp, hx]
      rw [opdV_eq F h1, opdV_eq F h2, Sem.run_bind, g2 w]
      rfl
    · cases h
  · rename_i op t x hx
    split at h
    · rename_i u h1
      obtain ⟨V, g1, g2⟩ := av1_all (X := X) h
      refine ⟨V, g1, fun w => ?_⟩
      simp only [execOp, hx]
      rw [opdV_eq F h1, Sem.run_bind, g2 w]
      rfl
    · cases h
  · rename_i x i hx
    split at h
    · rename_i vs hv
      have hr := opd_rep F hv
      generalize hV : a.eval x = V at hr
      cases hr with
      | tup hl hh =>
        rename_i xs
        have hi := (List.getElem?_eq_some_iff.1 h).1
        have hi2 : i < xs.toList.length := by rw [← hl]; exact hi
        have hx2 : xs.toList[i]? = some xs.toList[i] := List.getElem?_eq_getElem hi2
        refine ⟨xs.toList[i], hh i c _ h hx2, fun w => ?_⟩
        have hx3 : xs[i]? = some xs.toList[i] := by simp
        simp [execOp, hx, hV, Instr.extract, hx3]
    · cases h
  · rename_i x hx
    split at h
    · rename_i b off hc
      have hr := opd_rep F hc
      injection h with h
      subst h
      generalize hV : a.eval x = V at hr
      refine ⟨V, hr, fun w => ?_⟩
      cases hr with
      | ptr hb => simp only [execOp, hx, hV, Sem.run_pure]
    · cases h
  · rename_i s x f hx
    split at h
    · rename_i b off hc
      have hr := opd_rep F hc
      generalize hV : a.eval x = V at hr
      unfold aFieldAddr at h
      split at h
      · rename_i fs h1
        split at h
        · rename_i fd h2
          split at h
          · rename_i i h3
            have q0 := tsz_spec h3
            clear h3
            obtain ⟨i, h3, rfl⟩ := q0
            split at h
            · cases h
            · rename_i h4
              have h4 : i.size ≠ 0 := by simpa using h4
              simp only [Option.some.injEq] at h
              subst h
              cases hr with
              | ptr hb =>
                refine ⟨_, .ptr hb, fun w => ?_⟩
                have := run_fieldAt h1 h2 h3 h4
                simp only [execOp, hx, hV, Sem.run_bind, this, Result.andThen_ok, Sem.run_pure]
          · cases h
        · cases h
      · cases h
    · cases h
  · rename_i t x ix hx
    split at h
    · rename_i b lo n k i h1 h2
      obtain ⟨off, kk, ii, rfl, rfl⟩ := aIndexL_ptr h
      have r1 := opd_rep F h1
      have r2 := opd_rep F h2
      generalize hV : a.eval x = V at r1
      generalize hI : a.eval ix = I at r2
      obtain rfl : I = .int kk ii := by
        cases r2 with
        | c r => cases r with
          | v r => rfl
      cases r1 with
      | lsl q1 q2 q3 q4 q5 =>
        rename_i β o cap
        refine ⟨_, .ptr q1, fun w => ?_⟩
        obtain ⟨V', g1, g2⟩ := aIndexL_ok (X := (⟨fun _ _ => none, X.loc, X.own, X.room⟩ : Mem)) (w := w) h (.lsl q1 q2 q3 q4 q5) (.c (.v rfl))
        cases g1 with
        | ptr hb =>
          have hb : X.loc b = some _ := hb
          rw [q1] at hb
          injection hb with hb
          subst hb
          have := g2 w ⟨fun _ _ _ h => (by cases h), fun _ _ _ => rfl⟩
          simp [execOp, hx, hV, hI, this]
    · cases h
  · cases h
def PureW (P : Program) (nt : Nat) (ops : Array Oper) (fr : Fr) (o : Oper) (K : Fr → Prop) : Prop :=
  match aWanted ops fr o with
  | some false => PutW nt fr o.dst (.tup []) K
  | some true => match pureA P fr o with
    | some c => PutW nt fr o.dst c K
    | none => False
  | none => False
theorem pureW_ok {nt : Nat} {fr : Fr} {a : Act} {ops : Array Oper} {o : Oper} {K : Fr → Prop} (F : FR X nt fr a) (h : PureW P nt ops fr o K) : ∃ V fr', Yields P ops o V a ∧ FR X nt fr' (a.put o.dst V) ∧ K fr' := by
  unfold PureW at h
  split at h
  · rename_i hw
    obtain ⟨fr', h1, h2⟩ := putW_ok F h rep_undef
    exact ⟨undef, fr', Or.inr ⟨aWanted_ok F hw, rfl⟩, h1, h2⟩
  · rename_i hw
    split at h
    · rename_i c hc
      obtain ⟨V, g1, g2⟩ := pureA_ok F hc
      obtain ⟨fr', h1, h2⟩ := putW_ok F h g1
      exact ⟨V, fr', Or.inl ⟨aWanted_ok F hw, g2⟩, h1, h2⟩
    · exact h.elim
  · exact h.elim
def OrdX (P : Program) (nt : Nat) (ops : Array Oper) : OT → Fr → Mm → (Fr → Mm → Prop) → Prop
  | .fin, fr, m, Q => Q fr m
  | .stop, _, _, _ => True
  | .one i t, fr, m, Q => match ops[i]? with
    | none => False
    | some o => PureW P nt ops fr o fun fr' => OrdX P nt ops t fr' m Q
  | .br i t more, fr, m, Q => (match ops[i]? with
    | none => False
    | some o => StepW P nt ops o fr m fun _ fr' m' => OrdX P nt ops t fr' m' Q) ∧ OrdX P nt ops more fr m Q
theorem ordX_wp {md : Region.Mode} {nt : Nat} {ops : Array Oper} {Q : Exit → Act → World → Prop} {R : Fr → Mm → Prop} (hsel : Region.noSelect ops = true) :
    ∀ (t : OT), (∀ {n : Nat} {listed : Array Bool} {X : Mem} {w : World} {m : Mm} {fr : Fr} {a : Act}, chkT md ops t false n listed = true → FR X nt fr a → MR X W0 m w →
      OrdX P nt ops t fr m R → (∀ fr' m' a' w' X', R fr' m' → X.Le W0.heap.size X' → FR X' nt fr' a' → MR X' W0 m' w' → Q .normal a' w') → wpAny P md ops (NoP Q) n listed a w) ∧
    (∀ {n : Nat} {listed : Array Bool} {X : Mem} {w : World} {m : Mm} {fr : Fr} {a : Act}, chkT md ops t true (n + 1) listed = true → FR X nt fr a → MR X W0 m w →
      OrdX P nt ops t fr m R → (∀ fr' m' a' w' X', R fr' m' → X.Le W0.heap.size X' → FR X' nt fr' a' → MR X' W0 m' w' → Q .normal a' w') →
      ∀ j ∈ t.heads, wpOp P ops (NoP Q) j (fun a' w' => wpAny P md ops (NoP Q) n (listed.setIfInBounds j true) a' w') a w)
  | .fin => by
    refine ⟨fun {n listed X w m fr a} hB F M h hQ => ?_, fun hB => by simp [chkT] at hB⟩
    cases n with
    | zero => exact ⟨by simpa [chkT] using hB, hQ _ _ _ _ X h (Mem.Le.refl _ _) F M⟩
    | succ n => simp [chkT] at hB
  | .stop => by
    refine ⟨fun {n listed X w m fr a} hB => ?_, fun _ _ _ _ _ j hj => by cases hj⟩
    cases n <;> simp [chkT] at hB
  | .one i t => by
    refine ⟨fun {n listed X w m fr a} hB F M h hQ => ?_, fun hB => by simp [chkT] at hB⟩
    cases n with
    | zero => simp [chkT] at hB
    | succ n =>
      simp only [chkT, Bool.and_eq_true] at hB
      obtain ⟨⟨hk1, hk2⟩, hB'⟩ := hB
      have hk1 : i ∈ Region.ready md ops listed := by simpa using hk1
      unfold OrdX at h
      split at h
      · exact h.elim
      · rename_i o ho
        obtain ⟨V, fr', g1, g2, g3⟩ := pureW_ok (ops := ops) F h
        have hnext := (ordX_wp hsel t).1 hB' g2 M g3 hQ
        exact wpAny_first ho (Region.noSelect_spec hsel) (fun _ _ _ h => h.elim) n listed a w (Region.free_spec ho hk2) hk1 g1 hnext
  | .br i t more => by
    have chain : ∀ {n : Nat} {listed : Array Bool} {X : Mem} {w : World} {m : Mm} {fr : Fr} {a : Act}, chkT md ops t false n (listed.setIfInBounds i true) = true → chkT md ops more true (n + 1) listed = true → FR X nt fr a → MR X W0 m w →
        OrdX P nt ops (.br i t more) fr m R → (∀ fr' m' a' w' X', R fr' m' → X.Le W0.heap.size X' → FR X' nt fr' a' → MR X' W0 m' w' → Q .normal a' w') →
        ∀ j ∈ (OT.br i t more).heads, wpOp P ops (NoP Q) j (fun a' w' => wpAny P md ops (NoP Q) n (listed.setIfInBounds j true) a' w') a w := fun {n listed X w m fr a} hB1 hB2 F M h hQ j hj => by
      have hj2 : j = i ∨ j ∈ more.heads := by simpa [OT.heads] using hj
      unfold OrdX at h
      rcases hj2 with rfl | hj2
      · have h := h.1
        split at h
        · exact h.elim
        · rename_i o ho
          refine stepW_wp ho F M h fun kd fr' m' a' w' X' k0 k1 k2 k3 k4 => ?_
          exact (ordX_wp hsel t).1 hB1 k2 k3 k0 fun fr2 m2 a2 w2 X2 l0 l1 l2 l3 => hQ fr2 m2 a2 w2 X2 l0 (k1.trans l1) l2 l3
      · exact (ordX_wp hsel more).2 hB2 F M h.2 hQ j hj2
    refine ⟨fun {n listed X w m fr a} hB F M h hQ => ?_, fun {n listed X w m fr a} hB F M h hQ => ?_⟩
    · cases n with
      | zero => simp [chkT] at hB
      | succ n =>
        simp only [chkT, Bool.and_eq_true, beq_iff_eq] at hB
        obtain ⟨hready, hB1, hB2⟩ := hB
        have hh : Region.ready md ops listed = (OT.br i t more).heads := hready
        refine ⟨fun e => (by rw [hready] at e; cases e), fun j hj => ?_⟩
        exact chain hB1 hB2 F M h hQ j (by rw [← hh]; exact hj)
    · simp only [chkT, Bool.and_eq_true] at hB
      exact chain hB.1 hB.2 F M h hQ
theorem tr_drawX {R : MRel} [hR : RelOk R] {nt : Nat} {fr : Fr} {Q : Ex → Fr → Mm → Prop} (hm : P.follows .mixedOrders = true) {id : Nat} {l : List Oper} (t : OT) (hB : treeB l t = true) (frC : Fr) (mC : Mm)
    (h : OrdX P nt l.toArray t fr m (fun fr' m' => SubF frC fr' ∧ m' = mC)) (hQ : Q .nrm frC mC) : Tr R P nt (.region id l.toArray true) fr m Q := fun X W0 w ac F M => by
  unfold treeB at hB
  simp only [Bool.and_eq_true] at hB
  obtain ⟨hsel, hB⟩ := hB
  refine wp_mono (wp_region_any (Q := NoP fun e a' w' => ∃ ex fr' m' X', e = Ex.out ex ∧ Q ex fr' m' ∧ R W0.heap.size X X' ∧ FR X' nt fr' a' ∧ MR X' W0 m' w') hm ?_) NoP.le
  have := (ordX_wp (P := P) (W0 := W0) (md := .any) (nt := nt) (ops := l.toArray) (Q := fun e a' w' => ∃ ex fr' m' X', e = Ex.out ex ∧ Q ex fr' m' ∧ R W0.heap.size X X' ∧ FR X' nt fr' a' ∧ MR X' W0 m' w') hsel t).1 (n := l.length) (listed := Array.replicate l.length false)
    hB F M.drew h (fun fr' m' a' w' X' k0 k1 k2 k3 => ⟨.nrm, frC, mC, X', rfl, hQ, hR.of k1, k2.weak k0.1.spec, by rw [← k0.2]; exact k3⟩)
  simpa using this
attribute [go_sem] OrdX PureW pureA
end Go.Vs.Ab
