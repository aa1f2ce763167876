/-
  Part 2 of the proof's own texts: general lemmas and contracts of functions, laid one behind the other.
-/
import Derived.Test.YtinbfakpjnnagaaDoorDNm1
import Derived.Test.YtinbfakpjnnagaaDoorDNDh
import Derived.Test.YtinbfakpjnnagaaDoorDNBd
import Derived.Lib.AppendStr
import Derived.Lib.Builder
import Derived.Lib.UnsafeStr
import Derived.WalkKit
import Derived.Laws.Externs
import Derived.Lib.Hide
import Derived.Shelf.Strconv.Itoa3
import Derived.Lib.ItoaLen
import Derived.Test.YtinbfakpjnnagaaDoorDNOn
import Derived.Shelf.SlLaysM
import Derived.Shelf.SlLaysZ
import Derived.Shelf.SortM.Plain
import Derived.Shelf.SlIter.Sorted
import Derived.Shelf.SlIter.Keys
import Derived.Ground.GgzProg
import Derived.Ground.SlgmProg
import Derived.Test.YtinbfakpjnnagaaDoorProg
import Derived.Shelf.SortM.SortNone
import Derived.Test.YtinbfakpjnnagaaDoorDNAa
import Derived.Lib.Bytealg
set_option linter.unusedSimpArgs false
set_option linter.unusedVariables false
namespace Go.Proofs.YtinbfakpjnnagaaDoor
open Go.RowKit Go.Lib Go.Vs Go.Vs.Ab
set_option maxRecDepth 100000
set_option maxHeartbeats 4000000
theorem repcs_split {C : Nat → Nat → Option Value} {a b : List CV} {xs : List Value} (h : RepCs C (a ++ b) xs) : ∃ x y, xs = x ++ y ∧ RepCs C a x ∧ RepCs C b y := by
  have hl : (a ++ b).length = xs.length := h.1
  rw [List.length_append] at hl
  refine ⟨xs.take a.length, xs.drop a.length, (List.take_append_drop _ _).symm, ⟨by rw [List.length_take]; omega, fun i c x h1 h2 => ?_⟩, ⟨by rw [List.length_drop]; omega, fun i c x h1 h2 => ?_⟩⟩
  · have hi := (List.getElem?_eq_some_iff.1 h1).1
    rw [List.getElem?_take, if_pos hi] at h2
    exact h.2 i c x (by rw [List.getElem?_append_left hi]; exact h1) h2
  · rw [List.getElem?_drop] at h2
    exact h.2 (a.length + i) c x (by rw [List.getElem?_append_right (by omega), Nat.add_sub_cancel_left]; exact h1) h2
theorem repcs_one {C : Nat → Nat → Option Value} {c : CV} {xs : List Value} (h : RepCs C [c] xs) : ∃ x, xs = [x] ∧ RepC C c x := by
  obtain ⟨x, rfl⟩ := List.length_eq_one_iff.1 h.1.symm
  exact ⟨x, rfl, h.2 0 _ _ rfl rfl⟩
theorem repcs_join {C : Nat → Nat → Option Value} {a b : List CV} {x y : List Value} (h : RepCs C a x) (k : RepCs C b y) : RepCs C (a ++ b) (x ++ y) := by
  refine ⟨by rw [List.length_append, List.length_append, h.1, k.1], fun i c u h1 h2 => ?_⟩
  by_cases hi : i < a.length
  · rw [List.getElem?_append_left hi] at h1
    rw [List.getElem?_append_left (by rw [← h.1]; exact hi)] at h2
    exact h.2 i c u h1 h2
  · rw [List.getElem?_append_right (by omega)] at h1
    rw [List.getElem?_append_right (by rw [← h.1]; omega), ← h.1] at h2
    exact k.2 _ c u h1 h2
def clsC (c : Cls) : List CV := [.v (.string c.head.says), .v (.string c.head.pred), .v (.int .i64 c.head.n), .v (.bool c.head.a0.v), .v (.string c.head.a0.name), .v (.bool c.head.a1.v), .v (.string c.head.a1.name), .v (.bool c.head.a2.v), .v (.string c.head.a2.name), .v (.bool c.head.a3.v), .v (.string c.head.a3.name), slC atC c.ex c.body]
abbrev clsA (c : Cls) : AV := .agg (clsC c)
theorem grantcl_does (h : Atm) (tw : ByteArray) (l : List Atm) (ex : Bool) (hl : l.length ≤ 100000) : Does Tryd.prog 24 [.agg ([.v (.string h.says), .v (.string h.pred), .v (.int .i64 h.n), .v (.bool h.a0.v), .v (.string h.a0.name), .v (.bool h.a1.v), .v (.string h.a1.name), .v (.bool h.a2.v), .v (.string h.a2.name), .v (.bool h.a3.v), .v (.string h.a3.name)] ++ [slC atC ex l] ++ [.v (.string tw)])] (fun m => (.agg ([.v (.string h.says), .v (.string h.pred), .v (.int .i64 h.n), .v (.bool h.a0.v), .v (.string h.a0.name), .v (.bool h.a1.v), .v (.string h.a1.name), .v (.bool h.a2.v), .v (.string h.a2.name), .v (.bool h.a3.v), .v (.string h.a3.name)] ++ [.sl false (l.length + 1) ((({ h with says := tw } : Atm) :: l).flatMap atC)]), m)) := by
  refine does_of_rdW (enc := atC) (encV := fun a => a.cells.toList) (size := 11) (l := ({ h with says := tw } : Atm) :: l) vals_atC one_atC (fun c => .agg ([.v (.string h.says), .v (.string h.pred), .v (.int .i64 h.n), .v (.bool h.a0.v), .v (.string h.a0.name), .v (.bool h.a1.v), .v (.string h.a1.name), .v (.bool h.a2.v), .v (.string h.a2.name), .v (.bool h.a3.v), .v (.string h.a3.name)] ++ [c])) (fun v => .agg (h.cells ++ #[v])) (fun X c v hr => ?_) (callable Tryd.func24 (by kernel_rfl)) (fun X w vs hcell hargs => ?_)
  · refine .agg ?_
    rw [Array.toList_append]
    exact repcs_join (repcs_vals (vals_atC h) (one_atC h)) ⟨rfl, fun i d x h1 h2 => by
      match i with
      | 0 => simp at h1 h2; subst h1 h2; exact hr
      | i + 1 => simp at h1⟩
  · obtain ⟨v, hv, hr⟩ := reps1 hargs
    cases hr with
    | agg hr =>
      rename_i xs
      obtain ⟨y, z, e1, q1, q2⟩ := repcs_split hr
      obtain ⟨y1, y2, e2, q3, q4⟩ := repcs_split q1
      obtain ⟨s, rfl, q5⟩ := repcs_one q2
      obtain ⟨u, rfl, q6⟩ := repcs_one q4
      obtain rfl := vals_rep (vals_atC h) q3
      obtain rfl : s = .string tw := by cases q5; rfl
      have hvs : vs = #[.agg (h.cells ++ #[u] ++ #[.string tw])] := by
        apply Array.ext'
        rw [hv]
        congr 2
        apply Array.ext'
        rw [e1, e2]
        simp
      rw [hvs]
      exact grant_raw h tw l hl w u (rd_slR (ex := ex) vals_atC (fun _ => rfl) hcell (.c q6) (by decide)) (by intro p hp; simp [tabs] at hp)
theorem gr13_does (g : Grt) (hl : g.body.length ≤ 100000) : Does Tryd.prog 13 [grA g] (fun m => (clsA (grCls g), m)) := by
  have c1 := grantcl_does g.head g.tw g.body g.ex hl
  refine does_of' Tryd.func13 rfl (by kernel_rfl) rfl Tryd.ntmps13 rfl rfl fun Q hQ => ?_
  repeat (first | refine tr_seq_k fun _ _ => ?_ | (refine tr_region ?_; simp only [go_sem, List.getElem?_toArray, reduceCtorEq, Nat.reduceEqDiff, Nat.reduceLT, Nat.reduceLeDiff, Nat.reduceAdd, ↓reduceIte]) | (refine call_of (c1) ?_ ?_; (first | rfl | simp only [go_sem, reduceCtorEq, Nat.reduceEqDiff, Nat.reduceLT, Nat.reduceLeDiff, Nat.reduceAdd, Nat.reduceMul, Nat.reduceSub, Nat.reduceBEq, ↓reduceIte, shut_col]); simp only [go_sem, Nat.reduceLeDiff, Nat.reduceAdd, ↓reduceIte]) | refine k_of (by assumption) ?_ | (refine tr_ret ?_; try simp only [ex_seq_ret, ex_block_ret]))
  refine (hQ _ _ [clsA (grCls g)] ?_ (fun m => rfl)).2 <;> simp only [go_sem, reduceCtorEq, Nat.reduceEqDiff, Nat.reduceLeDiff, Nat.reduceAdd, ↓reduceIte, Tryd.f13]
  rfl
theorem stated_does (h : Atm) (l : List Atm) (ex : Bool) (hl : l.length ≤ 1000000) : Does Tryd.prog 14 [.agg ([.v (.string h.says), .v (.string h.pred), .v (.int .i64 h.n), .v (.bool h.a0.v), .v (.string h.a0.name), .v (.bool h.a1.v), .v (.string h.a1.name), .v (.bool h.a2.v), .v (.string h.a2.name), .v (.bool h.a3.v), .v (.string h.a3.name)] ++ [slC atC ex l])] (fun m => (.agg ([.v (.string h.says), .v (.string h.pred), .v (.int .i64 h.n), .v (.bool h.a0.v), .v (.string h.a0.name), .v (.bool h.a1.v), .v (.string h.a1.name), .v (.bool h.a2.v), .v (.string h.a2.name), .v (.bool h.a3.v), .v (.string h.a3.name)] ++ [slC atC l.isEmpty l]), m)) := by
  have c1 := (cloneA_own l ex hl).shut
  refine does_of' Tryd.func14 rfl (by kernel_rfl) rfl Tryd.ntmps14 rfl rfl fun Q hQ => ?_
  repeat (first | refine tr_seq_k fun _ _ => ?_ | (refine tr_region ?_; simp only [go_sem, reduceCtorEq, Nat.reduceEqDiff, Nat.reduceLT, ↓reduceIte]) | (refine tr_draw (id := 1) follows 6 [4, 6] [0, 1, 2, 3, 4, 5, 6] (by kernel_rfl) ?_; simp only [go_sem, List.getElem?_toArray, reduceCtorEq, Nat.reduceEqDiff, Nat.reduceLT, Nat.reduceLeDiff, Nat.reduceAdd, ↓reduceIte]) | (refine call_of (c1) ?_ ?_; (first | rfl | simp only [go_sem, reduceCtorEq, Nat.reduceEqDiff, Nat.reduceLT, Nat.reduceLeDiff, Nat.reduceAdd, Nat.reduceMul, Nat.reduceSub, Nat.reduceBEq, ↓reduceIte, shut_col]); simp only [go_sem, reduceCtorEq, Nat.reduceEqDiff, Nat.reduceLT, Nat.reduceLeDiff, Nat.reduceAdd, Nat.reduceBEq, ↓reduceIte, Bool.true_or, Bool.false_or]) | refine k_of (by assumption) ?_ | (refine tr_ret ?_; try simp only [ex_seq_ret, ex_block_ret]))
  refine (hQ _ _ [.agg ([.v (.string h.says), .v (.string h.pred), .v (.int .i64 h.n), .v (.bool h.a0.v), .v (.string h.a0.name), .v (.bool h.a1.v), .v (.string h.a1.name), .v (.bool h.a2.v), .v (.string h.a2.name), .v (.bool h.a3.v), .v (.string h.a3.name)] ++ [slC atC l.isEmpty l])] ?_ (fun m => rfl)).2 <;> simp only [go_sem, reduceCtorEq, Nat.reduceEqDiff, Nat.reduceLeDiff, Nat.reduceAdd, ↓reduceIte, Tryd.f14]
/-! ### the clauses -/
theorem info_c13 : info3 Tryd.prog 45 = some (12, 160) := by simp only [info3, sz45, by45, ze45]; rfl
theorem bld1C13 (c : Cls) : aBuildSlice Tryd.prog 31 1 [(0, clsA c)] = some (clsC c) := by
  simp only [aBuildSlice, Tryd.underlying31, sz45, ze45]
  rfl
theorem bld1R (h : Atm) (l : List Atm) : aBuildSlice Tryd.prog 31 1 [(0, .agg [.v (.string h.says), .v (.string h.pred), .v (.int .i64 h.n), .v (.bool h.a0.v), .v (.string h.a0.name), .v (.bool h.a1.v), .v (.string h.a1.name), .v (.bool h.a2.v), .v (.string h.a2.name), .v (.bool h.a3.v), .v (.string h.a3.name), slC atC l.isEmpty l])] = some (clsC ⟨h, l.isEmpty, l⟩) := bld1C13 ⟨h, l.isEmpty, l⟩
theorem colH_le1 {T : Type} {e size : Nat} {l k : List T} {x : T} : (colH e size l).length ≤ (colH e size (k ++ [x])).length := by
  cases l <;> cases k <;> simp [colH]
def clsT (p : Pol) (k : Nat) : List Cls := (p.rules.take k).map ruCls
def clsG (p : Pol) (k : Nat) : List Cls := p.rules.map ruCls ++ (p.grants.take k).map grCls
theorem clsT_next {p : Pol} {k : Nat} (hk : k < p.rules.length) : clsT p (k + 1) = clsT p k ++ [ruCls p.rules[k]] := by
  unfold clsT
  rw [List.take_succ_eq_append_getElem hk, List.map_append]
  rfl
theorem clsG_next {p : Pol} {k : Nat} (hk : k < p.grants.length) : clsG p (k + 1) = clsG p k ++ [grCls p.grants[k]] := by
  unfold clsG
  rw [List.take_succ_eq_append_getElem hk, List.map_append, List.append_assoc]
  rfl
theorem appCl13 (hp : List Blk) (l : List Cls) (c : Cls) (hl : l.length ≤ 1000000) : aAppend Tryd.prog ⟨hp, colH 45 12 l⟩ 31 (colA clsC 0 l) (.c (.sl true 1 (clsC c))) = some (colA clsC 0 (l ++ [c]), ⟨hp, colH 45 12 (l ++ [c])⟩) :=
  app_col0 (P := Tryd.prog) clsC (size := 12) (fun _ => rfl) Tryd.underlying31 info_c13 (hp := hp) (l := l) (x := c) (ex := true) (Nat.le_trans (show _ ≤ 1000001 by omega) (by decide)) (by omega)
theorem clauses_does (p : Pol) (h1 : p.rules.length ≤ 100000) (h2 : p.grants.length ≤ 100000) (h3 : ∀ r ∈ p.rules, r.body.length ≤ 100000) (h4 : ∀ g ∈ p.grants, g.body.length ≤ 100000) : Does Tryd.prog 6 [poA p] (freshA clsC 45 12 (clausesF p)) := by
  refine does_of' Tryd.func6 rfl (by kernel_rfl) rfl Tryd.ntmps6 rfl rfl fun Q hQ => ?_
  repeat (first | refine tr_seq_k fun _ _ => ?_ | (refine tr_region ?_; simp only [go_sem, List.getElem?_toArray, reduceCtorEq, Nat.reduceEqDiff, Nat.reduceLT, ↓reduceIte]) | refine k_of (by assumption) ?_ | refine tr_block ?_)
  refine tr_loop_k (σ := Nat) (fun k => [(1, .ptr 0 0), (3, colA clsC 0 (clsT p k)), (9, .c (slC ruC p.e4 p.rules)), (10, iA p.rules.length), (11, iA k)]) (fun k => ⟨[⟨false, [.c (slC stC p.e1 p.prin), .c (slC prC p.e2 p.preds), .c (slC clC p.e3 p.clears), iA p.quota, iA p.budget, .c (slC ruC p.e4 p.rules), .c (slC grC p.e5 p.grants)]⟩], colH 45 12 (clsT p k)⟩)
    (fun k => k ≤ p.rules.length) (fun k => p.rules.length - k) 0 (Nat.zero_le _) ⟨rfl, rfl, rfl, rfl, rfl, trivial⟩ rfl ?_
  rintro k hk K hK
  repeat (first | refine tr_seq_k fun _ _ => ?_ | (refine tr_region ?_; simp only [go_sem, Nat.reduceEqDiff, Nat.reduceLT, ↓reduceIte]) | refine k_of (by assumption) ?_)
  refine tr_cond rfl (fun ht => ?_) (fun hf => ?_)
  · have hlt : k < p.rules.length := by simpa using ht
    have ws := wrap_succ (show k ≤ 1000000000 by omega)
    have ix := idxRu (ex := p.e4) hlt
    have on := clsT_next hlt
    have tl : (clsT p k).length ≤ k := by unfold clsT; rw [List.length_map, List.length_take]; omega
    have hb := h3 _ (List.getElem_mem hlt)
    generalize p.rules[k] = x at *
    have cS := stated_does x.head x.body x.ex (by omega)
    have hA0 := fun hp => appCl13 hp (clsT p k) ⟨x.head, x.body.isEmpty, x.body⟩ (by omega)
    rw [show clsT p k ++ [(⟨x.head, x.body.isEmpty, x.body⟩ : Cls)] = clsT p (k + 1) from on.symm] at hA0
    have hb1 := bld1R x.head x.body
    repeat (first | refine tr_seq_k fun _ _ => ?_ | (refine tr_region ?_; simp only [go_sem, List.getElem?_toArray, reduceCtorEq, Nat.reduceEqDiff, Nat.reduceLT, Nat.reduceLeDiff, Nat.reduceAdd, ↓reduceIte, ix, one_max, ws]) | (refine call_of (cS) ?_ ?_; (first | rfl | simp only [go_sem, reduceCtorEq, Nat.reduceEqDiff, Nat.reduceLT, Nat.reduceLeDiff, Nat.reduceAdd, Nat.reduceMul, Nat.reduceSub, Nat.reduceBEq, ↓reduceIte, ix, hb1, one_max, hA0, ws, shut_col]); simp only [go_sem, Nat.reduceEqDiff, Nat.reduceLT, ↓reduceIte, hb1, hA0]) | refine k_of (by assumption) ?_ | refine tr_block ?_ | (refine tr_skip ?_; try simp only [ex_seq]))
    exact hK (k + 1) _ _ hlt ⟨⟨rfl, rfl, rfl, rfl, rfl, trivial⟩, Keep.of (eh := [_]) (ew := []) rfl (by rw [List.append_nil]), by simp only [lowF, low_col]; rfl, rfl, Nat.le_refl _, Nat.zero_le _⟩ (by omega)
  · have hkl : k = p.rules.length := by
      have := of_decide_eq_false hf
      omega
    subst hkl
    have e0 : clsT p p.rules.length = clsG p 0 := by unfold clsT clsG; rw [List.take_length, List.take_zero, List.map_nil, List.append_nil]
    rw [e0]
    repeat (first | refine tr_seq_k fun _ _ => ?_ | (refine tr_region ?_; simp only [go_sem, List.getElem?_toArray, reduceCtorEq, Nat.reduceEqDiff, Nat.reduceLT, ↓reduceIte]) | refine k_of (by assumption) ?_ | refine tr_block ?_ | (refine tr_exit ?_; try simp only [ex_seq_exit, ex_block_exit, ex_seq, ↓reduceIte]))
    refine tr_loop_k (σ := Nat) (fun k => [(1, .ptr 0 0), (3, colA clsC 0 (clsG p k)), (28, .c (slC grC p.e5 p.grants)), (29, iA p.grants.length), (30, iA k)]) (fun k => ⟨[⟨false, [.c (slC stC p.e1 p.prin), .c (slC prC p.e2 p.preds), .c (slC clC p.e3 p.clears), iA p.quota, iA p.budget, .c (slC ruC p.e4 p.rules), .c (slC grC p.e5 p.grants)]⟩], colH 45 12 (clsG p k)⟩)
      (fun k => k ≤ p.grants.length) (fun k => p.grants.length - k) 0 (Nat.zero_le _) ⟨rfl, rfl, rfl, rfl, rfl, trivial⟩ rfl ?_
    rintro k hk K hK
    repeat (first | refine tr_seq_k fun _ _ => ?_ | (refine tr_region ?_; simp only [go_sem, Nat.reduceEqDiff, Nat.reduceLT, ↓reduceIte]) | refine k_of (by assumption) ?_)
    refine tr_cond rfl (fun ht => ?_) (fun hf => ?_)
    · have hlt : k < p.grants.length := by simpa using ht
      have ws := wrap_succ (show k ≤ 1000000000 by omega)
      have ix := idxGr (ex := p.e5) hlt
      have on := clsG_next hlt
      have tl : (clsG p k).length ≤ p.rules.length + k := by unfold clsG; rw [List.length_append, List.length_map, List.length_map, List.length_take]; omega
      have hb := h4 _ (List.getElem_mem hlt)
      generalize p.grants[k] = x at *
      have cS := gr13_does x hb
      have hA0 := fun hp => appCl13 hp (clsG p k) (grCls x) (by omega)
      rw [← on] at hA0
      have hb1 := bld1C13 (grCls x)
      repeat (first | refine tr_seq_k fun _ _ => ?_ | (refine tr_region ?_; simp only [go_sem, Nat.reduceEqDiff, Nat.reduceLT, Nat.reduceLeDiff, Nat.reduceAdd, ↓reduceIte, ix, one_max, ws]) | (refine call_of (cS) ?_ ?_; (first | rfl | simp only [go_sem, reduceCtorEq, Nat.reduceEqDiff, Nat.reduceLT, Nat.reduceLeDiff, Nat.reduceAdd, Nat.reduceMul, Nat.reduceSub, Nat.reduceBEq, ↓reduceIte, ix, hb1, one_max, hA0, ws, shut_col]); simp only [go_sem, Nat.reduceEqDiff, Nat.reduceLT, ↓reduceIte, hb1, hA0]) | refine k_of (by assumption) ?_ | refine tr_block ?_ | (refine tr_skip ?_; try simp only [ex_seq]))
      exact hK (k + 1) _ _ hlt ⟨⟨rfl, rfl, rfl, rfl, rfl, trivial⟩, Keep.of (eh := [_]) (ew := []) rfl (by rw [List.append_nil]), by simp only [lowF, low_col]; rfl, rfl, Nat.le_refl _, by dsimp only; rw [on]; exact colH_le1⟩ (by omega)
    · have hkl : k = p.grants.length := by
        have := of_decide_eq_false hf
        omega
      subst hkl
      have e1 : clsG p p.grants.length = clausesF p := by unfold clsG clausesF; rw [List.take_length]
      rw [e1]
      repeat (first | refine tr_seq_k fun _ _ => ?_ | (refine tr_region ?_; simp only [go_sem, Nat.reduceEqDiff, Nat.reduceLT, ↓reduceIte]) | refine k_of (by assumption) ?_ | (refine tr_exit ?_; try simp only [ex_seq_exit, ex_block_exit, ex_seq, ↓reduceIte]) | (refine tr_ret ?_; try simp only [ex_seq_ret, ex_block_ret]))
      refine (hQ _ _ [colA clsC 0 (clausesF p)] ?_ (fun m => ret_col clsC 45 12 (clausesF p) _ m)).2 <;> simp only [go_sem, Nat.reduceEqDiff, ↓reduceIte, Tryd.f6]
end Go.Proofs.YtinbfakpjnnagaaDoor
namespace Go.Vs.Ab
open Go.RowKit
variable {P : Program} {X : Mem} {W0 w w' : World} {m : Mm}
theorem strCells_app (o s : ByteArray) : Lib.strCells (o ++ s) = Lib.strCells o ++ Lib.strCells s := by
  simp [Lib.strCells]
theorem app_size (o s : ByteArray) : (o ++ s).size = o.size + s.size := by
  rw [← Lib.strCells_length, strCells_app, List.length_append, Lib.strCells_length, Lib.strCells_length]
theorem MR.byt (M : MR X W0 m w) {j : Nat} {e : TypeId} {o : ByteArray} (hj : m.hp[j]? = some ⟨false, [.byt e o]⟩) :
    ∃ γ arr, X.loc j = some γ ∧ W0.heap.size ≤ γ ∧ w.heap[γ]? = some (.cells arr e (0, 0)) ∧ o.size ≤ arr.size ∧ arr.toList.take o.size = Lib.strCells o ∧ ∀ q, X.cell γ q = none := by
  obtain ⟨γ, h1, h2, h3, hB⟩ := M.locs j _ hj
  cases hB with
  | dead h => simp at h
  | ent h => simp at h
  | bld h => simp at h
  | byt h g1 g2 g3 g4 g5 =>
    simp only [List.cons.injEq, AV.byt.injEq, and_true] at h
    obtain ⟨rfl, rfl⟩ := h
    exact ⟨γ, _, h1, h2, g1, g2, g3, g5⟩
  | cells _ _ hr => exact (reps_no hr (fun x hx => by cases hx)).elim
/-! ### what that leaves of the memory -/
mutual
theorem low_up {i j i' j' : Nat} (hi : i ≤ i') (hj : j ≤ j') : ∀ {c : AV}, low i j c = true → low i' j' c = true
  | .own k _ _, h => by simp only [low, Nat.blt_eq] at *; omega
  | .ptr b _, h => by simp only [low, Nat.blt_eq] at *; omega
  | .tup vs, h => by simp only [low] at *; exact lows_up hi hj h
  | .fn _ a b, h => by simp only [low, Bool.and_eq_true] at *; exact ⟨lows_up hi hj h.1, lows_up hi hj h.2⟩
  | .c _, h => rfl
  | .agg _, h => rfl
  | .cptr _, h => rfl
  | .lsl b _ _ _, h => by simp only [low, Nat.blt_eq] at *; omega
  | .mapp b, h => by simp only [low, Nat.blt_eq] at *; omega
  | .ifc _ v, h => by simp only [low] at *; exact low_up hi hj h
  | .strc vs, h => by simp only [low] at *; exact lows_up hi hj h
  | .ent _, h => rfl
  | .bld _ _ c, h => by simp only [low] at *; exact low_up hi hj h
  | .byt _ _, h => rfl
  | .dead, h => rfl
theorem lows_up {i j i' j' : Nat} (hi : i ≤ i') (hj : j ≤ j') : ∀ {cs : List AV}, lows i j cs = true → lows i' j' cs = true
  | [], h => rfl
  | c :: r, h => by simp only [lows, Bool.and_eq_true] at *; exact ⟨low_up hi hj h.1, lows_up hi hj h.2⟩
end
theorem lowB_up {i j i' j' : Nat} (hi : i ≤ i') (hj : j ≤ j') : ∀ {bs : List Blk}, lowB i j bs = true → lowB i' j' bs = true
  | [], h => rfl
  | c :: r, h => by simp only [lowB, Bool.and_eq_true] at *; exact ⟨lows_up hi hj h.1, lowB_up hi hj h.2⟩
/-! ### a block that is a Builder, in the world -/
theorem MR.bld (M : MR X W0 m w) {b : Nat} {T : TypeId} {u : Bool} {c : AV} (hb : m.hp[b]? = some ⟨false, [.bld T u c]⟩) :
    ∃ β v, X.loc b = some β ∧ W0.heap.size ≤ β ∧ w.heap[β]? = some (.cells #[bptr u β, v] T (0, 0)) ∧ Rep X c v ∧ ∀ o, X.cell β o = none := by
  obtain ⟨β, h1, h2, h3, hB⟩ := M.locs b _ hb
  cases hB with
  | dead h => simp at h
  | ent h => simp at h
  | byt h => simp at h
  | bld h g1 g2 g3 g4 =>
    simp only [List.cons.injEq, AV.bld.injEq, and_true] at h
    obtain ⟨rfl, rfl, rfl⟩ := h
    exact ⟨β, _, h1, h2, g1, g2, g4⟩
  | cells _ _ hr => exact (reps_no hr (fun x hx => by cases hx)).elim
end Go.Vs.Ab
namespace Go.Proofs.YtinbfakpjnnagaaDoor
open Go.RowKit Go.Vs Go.Vs.Ab
set_option maxRecDepth 100000
set_option maxHeartbeats 4000000
section
variable {X : Mem} {W0 w : World} {m : Mm} {b : Nat} {u : Bool} {c : AV}
end
end Go.Proofs.YtinbfakpjnnagaaDoor
namespace Go.Proofs.YtinbfakpjnnagaaDoor
open Go.RowKit Go.Vs Go.Vs.Ab
set_option maxRecDepth 100000
set_option maxHeartbeats 4000000
/-! ### a page -/
structure KpP (m m' : Mm) : Prop where
  hw : m'.hw = m.hw
  len : m.hp.length ≤ m'.hp.length
  old : ∀ (i : Nat) (blk : Blk), plainB blk.cs = true → m.hp[i]? = some blk → m'.hp[i]? = some blk
theorem KpP.refl (m : Mm) : KpP m m := ⟨rfl, Nat.le_refl _, fun _ _ _ h => h⟩
theorem KpP.trans {m1 m2 m3 : Mm} (h : KpP m1 m2) (k : KpP m2 m3) : KpP m1 m3 := ⟨k.hw.trans h.hw, Nat.le_trans h.len k.len, fun i blk hp hi => k.old i blk hp (h.old i blk hp hi)⟩
end Go.Proofs.YtinbfakpjnnagaaDoor
namespace Go.Proofs.YtinbfakpjnnagaaDoor
open Go.RowKit Go.Vs Go.Vs.Ab
set_option maxRecDepth 100000
set_option maxHeartbeats 4000000
theorem build2T (x y : ByteArray) : aBuildSlice Tryd.prog 23 2 [(0, .c (.v (.string x))), (1, .c (.v (.string y)))] = some [.v (.string x), .v (.string y)] := by
  simp only [aBuildSlice, Tryd.underlying23, sz9, ze9]
  rfl
theorem build4T (x y z u : ByteArray) : aBuildSlice Tryd.prog 23 4 [(0, .c (.v (.string x))), (1, .c (.v (.string y))), (2, .c (.v (.string z))), (3, .c (.v (.string u)))] = some [.v (.string x), .v (.string y), .v (.string z), .v (.string u)] := by
  simp only [aBuildSlice, Tryd.underlying23, sz9, ze9]
  rfl
theorem build5T (x y z u v : ByteArray) : aBuildSlice Tryd.prog 23 5 [(0, .c (.v (.string x))), (1, .c (.v (.string y))), (2, .c (.v (.string z))), (3, .c (.v (.string u))), (4, .c (.v (.string v)))] = some [.v (.string x), .v (.string y), .v (.string z), .v (.string u), .v (.string v)] := by
  simp only [aBuildSlice, Tryd.underlying23, sz9, ze9]
  rfl
theorem two_max : (2 ≤ maxLen) = True := eq_true (by decide)
theorem five_max : (5 ≤ maxLen) = True := eq_true (by decide)
attribute [go_sem] one_max two_max four_max five_max build1T build2T build4T build5T
abbrev tIf : ByteArray := ⟨#[32, 105, 102, 32]⟩
def pbodyK (l : List Atm) : Nat → ByteArray
  | 0 => ⟨#[]⟩
  | k + 1 => pbodyK l k ++ match l[k]? with
    | some a => (if k = 0 then tIf else tComma) ++ ptext a
    | none => ⟨#[]⟩
def pbody (l : List Atm) : ByteArray := pbodyK l l.length
theorem pbodyK_next {l : List Atm} {k : Nat} (h : k < l.length) : pbodyK l (k + 1) = pbodyK l k ++ ((if k = 0 then tIf else tComma) ++ ptext l[k]) := by
  simp only [pbodyK, List.getElem?_eq_getElem h]
theorem ptext_size {a : Atm} (h : AtSz a) : (ptext a).size ≤ 10000000 := by
  obtain ⟨h1, h2, h3⟩ := h
  have hk := psaidK_size ⟨h1, h2, h3⟩ a.count
  have h4 := a.count_le
  have hm : a.count * 1000002 ≤ 4 * 1000002 := Nat.mul_le_mul_right _ h4
  have e1 : tSays.size = 6 := rfl
  have e2 : tShut.size = 1 := rfl
  have h5 : (psaid a).size ≤ 6000000 := by
    unfold psaid
    split
    · rw [app_size, e2]; omega
    · omega
  unfold ptext
  rw [app_size, app_size, e1]
  omega
theorem pbodyK_size {l : List Atm} (h : ∀ a ∈ l, AtSz a) : ∀ k, (pbodyK l k).size ≤ k * 10000010
  | 0 => by show (0 : Nat) ≤ _; omega
  | k + 1 => by
    have ih := pbodyK_size h k
    unfold pbodyK
    rw [app_size]
    split
    · rename_i a ha
      have := ptext_size (h a (List.mem_of_getElem? ha))
      rw [app_size]
      have e1 : tIf.size = 4 := rfl
      have e2 : tComma.size = 2 := rfl
      split
      · rw [e1]; omega
      · rw [e2]; omega
    · have e0 : (⟨#[]⟩ : ByteArray).size = 0 := rfl
      have ih2 : (pbodyK l k).size ≤ k * 10000010 := ih
      generalize (⟨#[]⟩ : ByteArray).size = z at *
      omega
end Go.Proofs.YtinbfakpjnnagaaDoor
namespace Go.Proofs.YtinbfakpjnnagaaDoor
open Go.RowKit Go.Vs Go.Vs.Ab
set_option maxRecDepth 100000
set_option maxHeartbeats 4000000
/-! ### rules, grants, clears, goals -/
/-! ### numbers -/
end Go.Proofs.YtinbfakpjnnagaaDoor
namespace Go.Proofs.YtinbfakpjnnagaaDoor
open Go.RowKit Go.Vs Go.Vs.Ab
set_option maxRecDepth 100000
set_option maxHeartbeats 4000000
theorem pbody_size {l : List Atm} (h : ∀ a ∈ l, AtSz a) (hl : l.length ≤ 400) : (pbody l).size ≤ 4000004000 := by
  have h1 := pbodyK_size h l.length
  have h2 : l.length * 10000010 ≤ 400 * 10000010 := Nat.mul_le_mul_right _ hl
  unfold pbody
  omega
end Go.Proofs.YtinbfakpjnnagaaDoor
namespace Go.Proofs.YtinbfakpjnnagaaDoor
open Go.RowKit Go.Vs Go.Vs.Ab
set_option maxRecDepth 100000
set_option maxHeartbeats 4000000
abbrev eAl : ByteArray := ⟨#[97, 108, 105, 99, 101]⟩
abbrev eBo : ByteArray := ⟨#[98, 111, 98]⟩
abbrev eCa : ByteArray := ⟨#[99, 97, 114, 111, 108]⟩
abbrev eP : ByteArray := ⟨#[112]⟩
abbrev eQ : ByteArray := ⟨#[113]⟩
abbrev eX : ByteArray := ⟨#[88]⟩
abbrev eZ : Tm := ⟨false, ⟨#[]⟩⟩
def at1 : Atm := ⟨eAl, eP, 1, ⟨true, eX⟩, eZ, eZ, eZ⟩
def at2 : Atm := ⟨eCa, eQ, 1, ⟨true, eX⟩, eZ, eZ, eZ⟩
theorem av_atm (a : Atm) : avOf (.agg a.cells) = some (atA a) := rfl
theorem pA_does (s p : ByteArray) (c : CV) (a : Atm) (hs : shuts [sA s, sA p, .c c] = some [sA s, sA p, .c c]) (h : answer (evFun Tryd.prog (lookH []) 100 8 [sA s, sA p, .c c] ⟨[], []⟩) = some (.agg a.cells)) : Does Tryd.prog 8 [sA s, sA p, .c c] (fun m => (atA a, m)) :=
  does_of_evA follows (callable_of Tryd.func8 (by kernel_rfl)) (av_atm a) hs h
theorem bld1A (a : Atm) : aBuildSlice Tryd.prog 33 1 [(0, .agg [.v (.string a.says), .v (.string a.pred), .v (.int .i64 a.n), .v (.bool a.a0.v), .v (.string a.a0.name), .v (.bool a.a1.v), .v (.string a.a1.name), .v (.bool a.a2.v), .v (.string a.a2.name), .v (.bool a.a3.v), .v (.string a.a3.name)])] = some ([a].flatMap atC) := by
  simp only [aBuildSlice, Tryd.underlying33, sz39, ze39]
  rfl
def gr1 : Grt := ⟨eBo, at1, true, [at2]⟩
theorem at1_sz : AtSz at1 := ⟨by decide, by decide, fun k => by match k with | 0 => decide | 1 => decide | 2 => decide | k + 3 => show at1.a3.name.size ≤ _; decide⟩
theorem at2_sz : AtSz at2 := ⟨by decide, by decide, fun k => by match k with | 0 => decide | 1 => decide | 2 => decide | k + 3 => show at2.a3.name.size ≤ _; decide⟩
end Go.Proofs.YtinbfakpjnnagaaDoor
namespace Go.Proofs.YtinbfakpjnnagaaDoor
open Go.RowKit Go.Vs Go.Vs.Ab
set_option maxRecDepth 100000
set_option maxHeartbeats 4000000
theorem light_parts {a : Atm} (h : lightA a = true) : a.says.size ≤ 300 ∧ a.pred.size ≤ 300 ∧ ∀ k, k < 4 → (a.arg k).name.size ≤ 300 := by
  unfold lightA lightK at h
  simp only [Bool.and_eq_true, decide_eq_true_eq, List.all_eq_true] at h
  refine ⟨h.1.1, h.1.2, fun k hk => ?_⟩
  have := h.2 (a.arg k) (by
    obtain rfl | rfl | rfl | rfl : k = 0 ∨ k = 1 ∨ k = 2 ∨ k = 3 := by omega
    all_goals simp [Atm.args, Atm.arg])
  simpa [tmL] using this
theorem lightA_sz {a : Atm} (h : lightA a = true) : AtSz a := by
  obtain ⟨h1, h2, h3⟩ := light_parts h
  refine ⟨by omega, by omega, fun k => ?_⟩
  by_cases hk : k < 4
  · have := h3 k hk; omega
  · obtain ⟨j, rfl⟩ : ∃ j, k = j + 4 := ⟨k - 4, by omega⟩
    have := h3 3 (by omega)
    show (a.arg 3).name.size ≤ 1000000
    omega
end Go.Proofs.YtinbfakpjnnagaaDoor
namespace Go.Vs.Ab
open Go.RowKit
variable {P : Program} {X : Mem} {W0 w w' : World} {m : Mm} {nt : Nat} {md : Region.Mode} {ops : Array Oper} {Q : Exit → Act → World → Prop} {S : World → Prop}
/-! ### the end -/
inductive TI where
  | op (i : Nat)
  | put (i : Nat)
structure Put3 where
  t : TypeId
  x : Nat
  k : Operand
  v : Nat
  d : Nat
  e : Nat
def put3 (nt : Nat) (o1 o2 o3 : Oper) : Option Put3 :=
  match o1.op, o2.op, o3.op, o1.dst, o2.dst, o1.guard, o2.guard, o3.guard with
  | .mapEntry t (.tmp x) k, .extract (.tmp d1) 1, .entryStore t' (.tmp x') (.tmp e1) (.tmp v), some d, some e, none, none, none =>
    if Nat.beq d d1 && (Nat.beq e e1 && (Nat.beq t t' && (Nat.beq x x' && (!Nat.beq x d && (!Nat.beq x e && (!Nat.beq v d && (!Nat.beq v e && (Nat.blt d nt && Nat.blt e nt)))))))) && o3.dst.isNone then some ⟨t, x, k, v, d, e⟩ else none
  | _, _, _, _, _, _, _, _ => none
def aPut3 (P : Program) (fr : Fr) (m : Mm) (t : TypeId) (x : Option AV) (k v : Option Value) : Option Mm :=
  match x, k, v with
  | some p, some a, some b => aMapPutE P m t p a b
  | _, _, _ => none
def PutM (K : Mm → Prop) : Option Mm → Prop
  | some m' => K m'
  | none => False
def PutW3 (P : Program) (fr : Fr) (m : Mm) (K : Mm → Prop) : Option Put3 → Prop
  | some p => find fr p.d = none ∧ find fr p.e = none ∧ PutM K (aPut3 P fr m p.t (find fr p.x) (opdV fr p.k) (opdV fr (.tmp p.v)))
  | none => False
def TailW (P : Program) (nt : Nat) (ops : Array Oper) : List TI → Fr → Mm → (Fr → Mm → Prop) → Prop
  | [], fr, m, Q => Q fr m
  | .op i :: r, fr, m, Q => match ops[i]? with
    | none => False
    | some o => StepW P nt ops o fr m fun _ fr' m' => TailW P nt ops r fr' m' Q
  | .put i :: r, fr, m, Q => match ops[i]?, ops[i + 1]?, ops[i + 2]? with
    | some o1, some o2, some o3 => PutW3 P fr m (fun m' => TailW P nt ops r fr m' Q) (put3 nt o1 o2 o3)
    | _, _, _ => False
/-! ### the region -/
attribute [go_sem] TailW put3 aPut3 PutM PutW3 aMapPutE Option.isNone_none
end Go.Vs.Ab
namespace Go.Vs.Ab
open Go.RowKit
variable {P : Program} {X : Mem} {W0 w w' : World} {m : Mm}
def pureA (P : Program) (fr : Fr) (o : Oper) : Option AV :=
  match o.op with
  | .move x => opd fr x
  | .assign x => opd fr x
  | .pick c a b => match opd fr c with
    | some (.c (.v (.bool t))) => match t with
      | true => opd fr a
      | false => opd fr b
    | _ => none
  | .binOp op t x y _ => match opdV fr x, opdV fr y with
    | some a, some b => av1 (pureVal P (do eqGuard op t x y a b; binOp op t a b))
    | _, _ => none
  | .unOp op _ x => match opdV fr x with
    | some a => av1 (pureVal P (Op.unary op a))
    | none => none
  | .extract x i => match opd fr x with
    | some (.tup vs) => vs[i]?
    | _ => none
  | .nilCheck x => match opd fr x with
    | some (.ptr b off) => some (.ptr b off)
    | _ => none
  | .fieldAddr s x f => match opd fr x with
    | some (.ptr b off) => aFieldAddr P s f (.ptr b off)
    | _ => none
  | .indexAddr t x ix => match opd fr x, opd fr ix with
    | some (.lsl b lo n k), some i => aIndexL P t (.lsl b lo n k) i
    | _, _ => none
  | _ => none
theorem aIndexL_ptr {t : TypeId} {b lo n k : Nat} {i c : AV} (h : aIndexL P t (.lsl b lo n k) i = some c) : ∃ off kk ii, c = .ptr b off ∧ i = .c (.v (.int kk ii)) := by
  unfold aIndexL at h
  split at h
  · rename_i e b' lo' n' k' i' ht hl hi
    injection hl with hl
    injection hl with hl _
    subst hl
    have hint : ∃ kk ii, i = .c (.v (.int kk ii)) := by
      unfold intV at hi
      split at hi
      · exact ⟨_, _, rfl⟩
      · cases hi
    obtain ⟨kk, ii, rfl⟩ := hint
    split at h
    · split at h
      · injection h with h
        exact ⟨_, kk, ii, h.symm, rfl⟩
      · cases h
    · cases h
  · cases h
theorem av1_all {s : Sem Value} {c : AV} (h : av1 (pureVal P s) = some c) : ∃ V, Rep X c V ∧ ∀ w, s.run P w = .ok V w := by
  unfold av1 at h
  cases hp : pureVal P s with
  | none => rw [hp] at h; cases h
  | some v =>
    rw [hp] at h
    exact ⟨v, avOf1_rep h, fun w => pureVal_run hp w⟩
theorem pureA_ok {nt : Nat} {fr : Fr} {a : Act} {o : Oper} {c : AV} (F : FR X nt fr a) (h : pureA P fr o = some c) : ∃ V, Rep X c V ∧ ∀ w, (execOp a.eval o).run P w = .ok (.value V) w := by
  unfold pureA at h
  split at h
  · rename_i x hx
    exact ⟨_, opd_rep F h, fun w => by simp only [execOp, hx, Sem.run_pure]⟩
  · rename_i x hx
    exact ⟨_, opd_rep F h, fun w => by simp only [execOp, hx, Sem.run_pure]⟩
  · rename_i x y z hx
    split at h
    · rename_i t ht
      have hb : a.eval x = .bool t := val_rep rfl (opd_rep F ht)
      cases t with
      | true => exact ⟨_, opd_rep F h, fun w' => by simp [execOp, hx, hb, asBool]⟩
      | false => exact ⟨_, opd_rep F h, fun w' => by simp [execOp, hx, hb, asBool]⟩
    · cases h
  · rename_i op t x y yt hx
    split at h
    · rename_i u v h1 h2
      obtain ⟨V, g1, g2⟩ := av1_all (X := X) h
      refine ⟨V, g1, fun w => ?_⟩
      simp only [execOp, hx]
      rw [opdV_eq F h1, opdV_eq F h2, Sem.run_bind, g2 w]
      rfl
    · cases h
  · rename_i op t x hx
    split at h
    · rename_i u h1
      obtain ⟨V, g1, g2⟩ := av1_all (X := X) h
      refine ⟨V, g1, fun w => ?_⟩
      simp only [execOp, hx]
      rw [opdV_eq F h1, Sem.run_bind, g2 w]
      rfl
    · cases h
  · rename_i x i hx
    split at h
    · rename_i vs hv
      have hr := opd_rep F hv
      generalize hV : a.eval x = V at hr
      cases hr with
      | tup hl hh =>
        rename_i xs
        have hi := (List.getElem?_eq_some_iff.1 h).1
        have hi2 : i < xs.toList.length := by rw [← hl]; exact hi
        have hx2 : xs.toList[i]? = some xs.toList[i] := List.getElem?_eq_getElem hi2
        refine ⟨xs.toList[i], hh i c _ h hx2, fun w => ?_⟩
        have hx3 : xs[i]? = some xs.toList[i] := by simp
        simp [execOp, hx, hV, Instr.extract, hx3]
    · cases h
  · rename_i x hx
    split at h
    · rename_i b off hc
      have hr := opd_rep F hc
      injection h with h
      subst h
      generalize hV : a.eval x = V at hr
      refine ⟨V, hr, fun w => ?_⟩
      cases hr with
      | ptr hb => simp only [execOp, hx, hV, Sem.run_pure]
    · cases h
  · rename_i s x f hx
    split at h
    · rename_i b off hc
      have hr := opd_rep F hc
      generalize hV : a.eval x = V at hr
      unfold aFieldAddr at h
      split at h
      · rename_i fs h1
        split at h
        · rename_i fd h2
          split at h
          · rename_i i h3
            have q0 := tsz_spec h3
            clear h3
            obtain ⟨i, h3, rfl⟩ := q0
            split at h
            · cases h
            · rename_i h4
              have h4 : i.size ≠ 0 := by simpa using h4
              simp only [Option.some.injEq] at h
              subst h
              cases hr with
              | ptr hb =>
                refine ⟨_, .ptr hb, fun w => ?_⟩
                have := run_fieldAt h1 h2 h3 h4
                simp only [execOp, hx, hV, Sem.run_bind, this, Result.andThen_ok, Sem.run_pure]
          · cases h
        · cases h
      · cases h
    · cases h
  · rename_i t x ix hx
    split at h
    · rename_i b lo n k i h1 h2
      obtain ⟨off, kk, ii, rfl, rfl⟩ := aIndexL_ptr h
      have r1 := opd_rep F h1
      have r2 := opd_rep F h2
      generalize hV : a.eval x = V at r1
      generalize hI : a.eval ix = I at r2
      obtain rfl : I = .int kk ii := by
        cases r2 with
        | c r => cases r with
          | v r => rfl
      cases r1 with
      | lsl q1 q2 q3 q4 q5 =>
        rename_i β o cap
        refine ⟨_, .ptr q1, fun w => ?_⟩
        obtain ⟨V', g1, g2⟩ := aIndexL_ok (X := (⟨fun _ _ => none, X.loc, X.own, X.room⟩ : Mem)) (w := w) h (.lsl q1 q2 q3 q4 q5) (.c (.v rfl))
        cases g1 with
        | ptr hb =>
          have hb : X.loc b = some _ := hb
          rw [q1] at hb
          injection hb with hb
          subst hb
          have := g2 w ⟨fun _ _ _ h => (by cases h), fun _ _ _ => rfl⟩
          simp [execOp, hx, hV, hI, this]
    · cases h
  · cases h
def PureW (P : Program) (nt : Nat) (ops : Array Oper) (fr : Fr) (o : Oper) (K : Fr → Prop) : Prop :=
  match aWanted ops fr o with
  | some false => PutW nt fr o.dst (.tup []) K
  | some true => match pureA P fr o with
    | some c => PutW nt fr o.dst c K
    | none => False
  | none => False
theorem pureW_ok {nt : Nat} {fr : Fr} {a : Act} {ops : Array Oper} {o : Oper} {K : Fr → Prop} (F : FR X nt fr a) (h : PureW P nt ops fr o K) : ∃ V fr', Yields P ops o V a ∧ FR X nt fr' (a.put o.dst V) ∧ K fr' := by
  unfold PureW at h
  split at h
  · rename_i hw
    obtain ⟨fr', h1, h2⟩ := putW_ok F h rep_undef
    exact ⟨undef, fr', Or.inr ⟨aWanted_ok F hw, rfl⟩, h1, h2⟩
  · rename_i hw
    split at h
    · rename_i c hc
      obtain ⟨V, g1, g2⟩ := pureA_ok F hc
      obtain ⟨fr', h1, h2⟩ := putW_ok F h g1
      exact ⟨V, fr', Or.inl ⟨aWanted_ok F hw, g2⟩, h1, h2⟩
    · exact h.elim
  · exact h.elim
def OrdX (P : Program) (nt : Nat) (ops : Array Oper) : OT → Fr → Mm → (Fr → Mm → Prop) → Prop
  | .fin, fr, m, Q => Q fr m
  | .stop, _, _, _ => True
  | .one i t, fr, m, Q => match ops[i]? with
    | none => False
    | some o => PureW P nt ops fr o fun fr' => OrdX P nt ops t fr' m Q
  | .br i t more, fr, m, Q => (match ops[i]? with
    | none => False
    | some o => StepW P nt ops o fr m fun _ fr' m' => OrdX P nt ops t fr' m' Q) ∧ OrdX P nt ops more fr m Q
theorem ordX_wp {md : Region.Mode} {nt : Nat} {ops : Array Oper} {Q : Exit → Act → World → Prop} {R : Fr → Mm → Prop} (hsel : Region.noSelect ops = true) :
    ∀ (t : OT), (∀ {n : Nat} {listed : Array Bool} {X : Mem} {w : World} {m : Mm} {fr : Fr} {a : Act}, chkT md ops t false n listed = true → FR X nt fr a → MR X W0 m w →
      OrdX P nt ops t fr m R → (∀ fr' m' a' w' X', R fr' m' → X.Le W0.heap.size X' → FR X' nt fr' a' → MR X' W0 m' w' → Q .normal a' w') → wpAny P md ops (NoP Q) n listed a w) ∧
    (∀ {n : Nat} {listed : Array Bool} {X : Mem} {w : World} {m : Mm} {fr : Fr} {a : Act}, chkT md ops t true (n + 1) listed = true → FR X nt fr a → MR X W0 m w →
      OrdX P nt ops t fr m R → (∀ fr' m' a' w' X', R fr' m' → X.Le W0.heap.size X' → FR X' nt fr' a' → MR X' W0 m' w' → Q .normal a' w') →
      ∀ j ∈ t.heads, wpOp P ops (NoP Q) j (fun a' w' => wpAny P md ops (NoP Q) n (listed.setIfInBounds j true) a' w') a w)
  | .fin => by
    refine ⟨fun {n listed X w m fr a} hB F M h hQ => ?_, fun hB => by simp [chkT] at hB⟩
    cases n with
    | zero => exact ⟨by simpa [chkT] using hB, hQ _ _ _ _ X h (Mem.Le.refl _ _) F M⟩
    | succ n => simp [chkT] at hB
  | .stop => by
    refine ⟨fun {n listed X w m fr a} hB => ?_, fun _ _ _ _ _ j hj => by cases hj⟩
    cases n <;> simp [chkT] at hB
  | .one i t => by
    refine ⟨fun {n listed X w m fr a} hB F M h hQ => ?_, fun hB => by simp [chkT] at hB⟩
    cases n with
    | zero => simp [chkT] at hB
    | succ n =>
      simp only [chkT, Bool.and_eq_true] at hB
      obtain ⟨⟨hk1, hk2⟩, hB'⟩ := hB
      have hk1 : i ∈ Region.ready md ops listed := by simpa using hk1
      unfold OrdX at h
      split at h
      · exact h.elim
      · rename_i o ho
        obtain ⟨V, fr', g1, g2, g3⟩ := pureW_ok (ops := ops) F h
        have hnext := (ordX_wp hsel t).1 hB' g2 M g3 hQ
        exact wpAny_first ho (Region.noSelect_spec hsel) (fun _ _ _ h => h.elim) n listed a w (Region.free_spec ho hk2) hk1 g1 hnext
  | .br i t more => by
    have chain : ∀ {n : Nat} {listed : Array Bool} {X : Mem} {w : World} {m : Mm} {fr : Fr} {a : Act}, chkT md ops t false n (listed.setIfInBounds i true) = true → chkT md ops more true (n + 1) listed = true → FR X nt fr a → MR X W0 m w →
        OrdX P nt ops (.br i t more) fr m R → (∀ fr' m' a' w' X', R fr' m' → X.Le W0.heap.size X' → FR X' nt fr' a' → MR X' W0 m' w' → Q .normal a' w') →
        ∀ j ∈ (OT.br i t more).heads, wpOp P ops (NoP Q) j (fun a' w' => wpAny P md ops (NoP Q) n (listed.setIfInBounds j true) a' w') a w := fun {n listed X w m fr a} hB1 hB2 F M h hQ j hj => by
      have hj2 : j = i ∨ j ∈ more.heads := by simpa [OT.heads] using hj
      unfold OrdX at h
      rcases hj2 with rfl | hj2
      · have h := h.1
        split at h
        · exact h.elim
        · rename_i o ho
          refine stepW_wp ho F M h fun kd fr' m' a' w' X' k0 k1 k2 k3 k4 => ?_
          exact (ordX_wp hsel t).1 hB1 k2 k3 k0 fun fr2 m2 a2 w2 X2 l0 l1 l2 l3 => hQ fr2 m2 a2 w2 X2 l0 (k1.trans l1) l2 l3
      · exact (ordX_wp hsel more).2 hB2 F M h.2 hQ j hj2
    refine ⟨fun {n listed X w m fr a} hB F M h hQ => ?_, fun {n listed X w m fr a} hB F M h hQ => ?_⟩
    · cases n with
      | zero => simp [chkT] at hB
      | succ n =>
        simp only [chkT, Bool.and_eq_true, beq_iff_eq] at hB
        obtain ⟨hready, hB1, hB2⟩ := hB
        have hh : Region.ready md ops listed = (OT.br i t more).heads := hready
        refine ⟨fun e => (by rw [hready] at e; cases e), fun j hj => ?_⟩
        exact chain hB1 hB2 F M h hQ j (by rw [← hh]; exact hj)
    · simp only [chkT, Bool.and_eq_true] at hB
      exact chain hB.1 hB.2 F M h hQ
theorem tr_drawX {R : MRel} [hR : RelOk R] {nt : Nat} {fr : Fr} {Q : Ex → Fr → Mm → Prop} (hm : P.follows .mixedOrders = true) {id : Nat} {l : List Oper} (t : OT) (hB : treeB l t = true) (frC : Fr) (mC : Mm)
    (h : OrdX P nt l.toArray t fr m (fun fr' m' => SubF frC fr' ∧ m' = mC)) (hQ : Q .nrm frC mC) : Tr R P nt (.region id l.toArray true) fr m Q := fun X W0 w ac F M => by
  unfold treeB at hB
  simp only [Bool.and_eq_true] at hB
  obtain ⟨hsel, hB⟩ := hB
  refine wp_mono (wp_region_any (Q := NoP fun e a' w' => ∃ ex fr' m' X', e = Ex.out ex ∧ Q ex fr' m' ∧ R W0.heap.size X X' ∧ FR X' nt fr' a' ∧ MR X' W0 m' w') hm ?_) NoP.le
  have := (ordX_wp (P := P) (W0 := W0) (md := .any) (nt := nt) (ops := l.toArray) (Q := fun e a' w' => ∃ ex fr' m' X', e = Ex.out ex ∧ Q ex fr' m' ∧ R W0.heap.size X X' ∧ FR X' nt fr' a' ∧ MR X' W0 m' w') hsel t).1 (n := l.length) (listed := Array.replicate l.length false)
    hB F M.drew h (fun fr' m' a' w' X' k0 k1 k2 k3 => ⟨.nrm, frC, mC, X', rfl, hQ, hR.of k1, k2.weak k0.1.spec, by rw [← k0.2]; exact k3⟩)
  simpa using this
attribute [go_sem] OrdX PureW pureA
end Go.Vs.Ab
namespace Go.Proofs.YtinbfakpjnnagaaDoor
open Go.RowKit Go.Vs Go.Vs.Ab
set_option maxRecDepth 100000
set_option maxHeartbeats 4000000
theorem joinB_one' (s sep : ByteArray) : joinB [s] sep = s := by
  unfold joinB
  apply ByteArray.ext
  simp [Lib.join]
theorem pbodyK_join (l : List Atm) : ∀ k, 0 < k → k ≤ l.length → pbodyK l k = tIf ++ joinB ((l.take k).map ptext) tComma
  | 0, h, _ => absurd h (Nat.lt_irrefl 0)
  | k + 1, _, hk => by
    rw [pbodyK_next (by omega)]
    by_cases h0 : k = 0
    · subst h0
      have : l.take 1 = [l[0]] := by
        match hc : l, hk with
        | x :: r, _ => simp
      rw [if_pos rfl, this, List.map_cons, List.map_nil, joinB_one']
      show (⟨#[]⟩ : ByteArray) ++ _ = _
      apply ByteArray.ext
      simp
    · rw [if_neg h0, pbodyK_join l k (by omega) (by omega), List.take_succ_eq_append_getElem (by omega), List.map_append, List.map_cons, List.map_nil, join_snoc _ _ _ (by
        intro e
        have := congrArg List.length e
        rw [List.length_map, List.length_take, List.length_nil] at this
        omega)]
      simp only [ByteArray.append_assoc]
def clText (h : Atm) (b : List Atm) : ByteArray := ptext h ++ pbody b
theorem clText_nil (h : Atm) : clText h [] = ptext h := by
  have e : pbody [] = ⟨#[]⟩ := rfl
  unfold clText
  rw [e]
  apply ByteArray.ext
  simp
theorem clText_join (h : Atm) {b : List Atm} (hb : b ≠ []) : clText h b = (ptext h ++ tIf) ++ joinB (b.map ptext) tComma := by
  have := pbodyK_join b b.length (List.length_pos_iff.2 hb) (Nat.le_refl _)
  rw [List.take_of_length_le (Nat.le_refl _)] at this
  unfold clText pbody
  rw [this, ByteArray.append_assoc]
theorem text13_does (c : Cls) (h1 : AtSz c.head) (h2 : ∀ a ∈ c.body, AtSz a) (h3 : c.body.length ≤ 400) : Does Tryd.prog 10 [clsA c] (fun m => (sA (clText c.head c.body), m)) := by
  obtain ⟨h, ex, b⟩ := c
  dsimp only at h1 h2 h3 ⊢
  have cH := text_does h h1
  refine does_of' Tryd.func10 rfl (by kernel_rfl) rfl Tryd.ntmps10 rfl rfl fun Q hQ => ?_
  repeat (first | refine tr_seq_k fun _ _ => ?_ | (refine tr_region ?_; simp only [go_sem, List.getElem?_toArray, reduceCtorEq, Nat.reduceEqDiff, Nat.reduceLT, ↓reduceIte, clsC]) | refine k_of (by assumption) ?_ | refine tr_block ?_)
  refine tr_loop_k (σ := Nat) (fun k => [(1, .ptr 0 0), (3, colA stC 0 ((b.take k).map ptext)), (7, .c (slC atC ex b)), (8, iA b.length), (9, iA k)]) (fun k => ⟨[⟨false, ([.c (.v (.string h.says)), .c (.v (.string h.pred)), .c (.v (.int .i64 h.n)), .c (.v (.bool h.a0.v)), .c (.v (.string h.a0.name)), .c (.v (.bool h.a1.v)), .c (.v (.string h.a1.name)), .c (.v (.bool h.a2.v)), .c (.v (.string h.a2.name)), .c (.v (.bool h.a3.v)), .c (.v (.string h.a3.name))] : List AV) ++ [.c (slC atC ex b)]⟩], colH 9 1 ((b.take k).map ptext)⟩)
    (fun k => k ≤ b.length) (fun k => b.length - k) 0 (Nat.zero_le _) ⟨rfl, rfl, rfl, rfl, rfl, trivial⟩ rfl ?_
  rintro k hk K hK
  repeat (first | refine tr_seq_k fun _ _ => ?_ | (refine tr_region ?_; simp only [go_sem, Nat.reduceEqDiff, Nat.reduceLT, ↓reduceIte]) | refine k_of (by assumption) ?_)
  refine tr_cond rfl (fun ht => ?_) (fun hf => ?_)
  · have hlt : k < b.length := by simpa using ht
    have ws := wrap_succ (show k ≤ 1000000000 by omega)
    have ix := idxA12 (ex := ex) hlt
    have cT := text_does b[k] (h2 _ (List.getElem_mem hlt))
    have on : (b.take (k + 1)).map ptext = (b.take k).map ptext ++ [ptext b[k]] := by rw [List.take_succ_eq_append_getElem hlt, List.map_append]; rfl
    have tl : ((b.take k).map ptext).length ≤ k := by rw [List.length_map, List.length_take]; omega
    generalize b[k] = x at *
    have hA0 := fun hp => appS hp ((b.take k).map ptext) (ptext x) (by omega)
    rw [← on] at hA0
    have hb1 := build1T (ptext x)
    repeat (first | refine tr_seq_k fun _ _ => ?_ | (refine tr_region ?_; simp only [go_sem, Nat.reduceEqDiff, Nat.reduceLT, Nat.reduceLeDiff, Nat.reduceAdd, ↓reduceIte, ix, atC, one_max, ws]) | (refine call_of (cT) ?_ ?_; (first | rfl | simp only [go_sem, reduceCtorEq, Nat.reduceEqDiff, Nat.reduceLT, Nat.reduceLeDiff, Nat.reduceAdd, Nat.reduceMul, Nat.reduceSub, Nat.reduceBEq, ↓reduceIte, ix, atC, hb1, one_max, hA0, ws, shut_col]); simp only [go_sem, Nat.reduceEqDiff, Nat.reduceLT, ↓reduceIte, hb1, hA0]) | refine k_of (by assumption) ?_ | refine tr_block ?_ | (refine tr_skip ?_; try simp only [ex_seq]))
    exact hK (k + 1) _ _ hlt ⟨⟨rfl, rfl, rfl, rfl, rfl, trivial⟩, Keep.of (eh := [_]) (ew := []) rfl (by rw [List.append_nil]), by simp only [lowF, low_col]; rfl, rfl, Nat.le_refl _, Nat.zero_le _⟩ (by omega)
  · have hkl : k = b.length := by
      have := of_decide_eq_false hf
      omega
    subst hkl
    rw [List.take_length]
    by_cases h0 : b = []
    · subst h0
      repeat (first | refine tr_seq_k fun _ _ => ?_ | (refine tr_region ?_; simp only [go_sem, List.getElem?_toArray, Nat.reduceEqDiff, Nat.reduceLT, ↓reduceIte]) | refine k_of (by assumption) ?_ | (refine tr_exit ?_; try simp only [ex_seq_exit, ex_block_exit, ex_seq, ↓reduceIte]))
      refine tr_cond rfl (fun ht => ?_) (fun hf => ?_)
      · repeat (first | refine tr_seq_k fun _ _ => ?_ | (refine tr_region ?_; simp only [go_sem, List.getElem?_toArray, reduceCtorEq, Nat.reduceEqDiff, Nat.reduceLT, Nat.reduceLeDiff, Nat.reduceAdd, ↓reduceIte]) | (refine call_of (cH) ?_ ?_; (first | rfl | simp only [go_sem, reduceCtorEq, Nat.reduceEqDiff, Nat.reduceLT, Nat.reduceLeDiff, Nat.reduceAdd, Nat.reduceMul, Nat.reduceSub, Nat.reduceBEq, ↓reduceIte, shut_col]); simp only [go_sem]) | refine k_of (by assumption) ?_ | (refine tr_ret ?_; try simp only [ex_seq_ret]))
        refine (hQ _ _ [sA (ptext h)] ?_ (fun m => ?_)).2 <;> simp only [go_sem, Nat.reduceEqDiff, ↓reduceIte, Tryd.f10, clText_nil]
      · cases hf
    · have hne : b.map ptext ≠ [] := fun e => h0 (List.map_eq_nil_iff.1 e)
      have hl : (b.map ptext).length = b.length := List.length_map _
      have hpos : 0 < b.length := List.length_pos_iff.2 h0
      have e0 : ((((b.map ptext).length : Nat) : Int) == 0) = false := by
        rw [beq_eq_false_iff_ne, hl]
        omega
      have pb : pbody b = tIf ++ joinB (b.map ptext) tComma := by
        have := pbodyK_join b b.length hpos (Nat.le_refl _)
        rw [List.take_of_length_le (Nat.le_refl _)] at this
        exact this
      have sb := pbody_size h2 h3
      have z1 : tIf.size = 4 := rfl
      have js : (joinB (b.map ptext) tComma).size ≤ 4004004000 := by
        rw [pb, ByteArray.size_append] at sb
        omega
      have cJ := join_does (b.map ptext) tComma false (by rw [hl]; omega) (by omega)
      have th := ptext_size h1
      have a1 := sadd (a := ptext h) (b := tIf) (n := 100000000) (by omega) (by decide)
      have a2 := sadd (a := ptext h ++ tIf) (b := joinB (b.map ptext) tComma) (n := 5000000000) (by rw [ByteArray.size_append]; omega) (by decide)
      have hr := clText_join h h0
      rw [colA_ne stC 0 hne, colH_ne _ _ hne] at *
      repeat (first | refine tr_seq_k fun _ _ => ?_ | (refine tr_region ?_; simp only [go_sem, List.getElem?_toArray, Nat.reduceEqDiff, Nat.reduceLT, ↓reduceIte, e0]) | refine k_of (by assumption) ?_ | (refine tr_exit ?_; try simp only [ex_seq_exit, ex_block_exit, ex_seq, ↓reduceIte]))
      refine tr_cond rfl (fun ht => ?_) (fun hf => ?_)
      · cases ht
      · repeat (first | refine tr_seq_k fun _ _ => ?_ | (refine tr_region ?_; simp only [go_sem, List.getElem?_toArray, reduceCtorEq, Nat.reduceEqDiff, Nat.reduceLT, Nat.reduceLeDiff, Nat.reduceAdd, ↓reduceIte]) | (refine call_of (cH) ?_ ?_; (first | rfl | simp only [go_sem, reduceCtorEq, Nat.reduceEqDiff, Nat.reduceLT, Nat.reduceLeDiff, Nat.reduceAdd, Nat.reduceMul, Nat.reduceSub, Nat.reduceBEq, ↓reduceIte, a1, a2, shut_col]); simp only [go_sem, Nat.reduceEqDiff, Nat.reduceLT, ↓reduceIte, a1]) | (refine call_of (cJ) ?_ ?_; (first | rfl | simp only [go_sem, reduceCtorEq, Nat.reduceEqDiff, Nat.reduceLT, Nat.reduceLeDiff, Nat.reduceAdd, Nat.reduceMul, Nat.reduceSub, Nat.reduceBEq, ↓reduceIte, a1, a2, shut_col]); simp only [go_sem, Nat.reduceEqDiff, Nat.reduceLT, ↓reduceIte, a2]) | refine k_of (by assumption) ?_ | (refine tr_skip ?_; try simp only [ex_seq]) | (refine tr_ret ?_; try simp only [ex_seq_ret, ex_block_ret]))
        refine (hQ _ _ [sA ((ptext h ++ tIf) ++ joinB (b.map ptext) tComma)] ?_ (fun m => ?_)).2 <;> simp only [go_sem, Nat.reduceEqDiff, ↓reduceIte, Tryd.f10, hr]
theorem idxCl {ex : Bool} {l : List Cls} {k : Nat} (h : k < l.length) : aIndexAddr Tryd.prog 31 (.c (slC clsC ex l)) (.c (.v (.int .i64 (k : Int)))) = some (.cptr (clsC l[k] ++ (l.drop (k + 1)).flatMap clsC)) :=
  idx_R clsC 12 (fun _ => rfl) Tryd.underlying31 sz45 (by decide) h
/-! ### the example -/
def cl13 : Cls := ⟨at1, false, [leadA gr1, at2]⟩
abbrev tEx13 : ByteArray := ⟨#[97, 108, 105, 99, 101, 32, 115, 97, 121, 115, 32, 112, 40, 88, 41, 32, 105, 102, 32, 98, 111, 98, 32, 115, 97, 121, 115, 32, 112, 40, 88, 41, 44, 32, 99, 97, 114, 111, 108, 32, 115, 97, 121, 115, 32, 113, 40, 88, 41]⟩
theorem cl13_text : clText cl13.head cl13.body = tEx13 := by decide +kernel
theorem ld1_sz : AtSz (leadA gr1) := ⟨by decide, by decide, fun k => by rw [lead_arg]; exact at1_sz.2.2 k⟩
theorem lives13_does : Does Tryd.prog 4 [] (fun m => (bA true, m)) := by
  have c1 := pA_does eAl eP (.sl true 1 [.v (.string eX)]) at1 rfl (by kernel_rfl)
  have c2 := pA_does eCa eQ (.sl true 1 [.v (.string eX)]) at2 rfl (by kernel_rfl)
  have cG : Does Tryd.prog 13 [grA gr1] (fun m => (clsA cl13, m)) := gr13_does gr1 (by decide)
  have cT := text13_does cl13 at1_sz (fun a ha => by
    rcases List.mem_cons.1 ha with rfl | ha
    · exact ld1_sz
    · rw [List.mem_singleton] at ha; subst ha; exact at2_sz) (by decide)
  rw [cl13_text] at cT
  have ec : clsC cl13 = [.v (.string at1.says), .v (.string at1.pred), .v (.int .i64 at1.n), .v (.bool at1.a0.v), .v (.string at1.a0.name), .v (.bool at1.a1.v), .v (.string at1.a1.name), .v (.bool at1.a2.v), .v (.string at1.a2.name), .v (.bool at1.a3.v), .v (.string at1.a3.name), .sl false 2 ([leadA gr1, at2].flatMap atC)] := rfl
  have b2 := bld1A at2
  have eA := fun x y => bin_eqA' x y at1 at1
  simp only [pv_bind, decide_true] at eA
  refine does_of' Tryd.func4 rfl (by kernel_rfl) rfl Tryd.ntmps4 rfl rfl fun Q hQ => ?_
  repeat (first | refine tr_seq_k fun _ _ => ?_ | (refine tr_region ?_; simp only [go_sem, reduceCtorEq, Nat.reduceEqDiff, Nat.reduceLT, ↓reduceIte]) | (refine tr_draw (id := 2) follows 10000 [1, 6, 7] [0, 1, 2, 3, 4, 5, 6, 7, 8, 9, 10, 11, 12, 13, 14, 15, 16] (by kernel_rfl) ?_; simp only [go_sem, List.getElem?_toArray, reduceCtorEq, Nat.reduceEqDiff, Nat.reduceLT, Nat.reduceLeDiff, Nat.reduceAdd, ↓reduceIte]) | (refine call_of (c1) ?_ ?_; (first | rfl | simp only [go_sem]); simp only [go_sem, List.getElem?_toArray, reduceCtorEq, Nat.reduceEqDiff, Nat.reduceLT, Nat.reduceBEq, ↓reduceIte, Bool.true_or, Bool.false_or, eA]) | (refine call_of (c2) ?_ ?_; (first | rfl | simp only [go_sem, reduceCtorEq, Nat.reduceEqDiff, Nat.reduceLT, Nat.reduceLeDiff, Nat.reduceAdd, Nat.reduceMul, Nat.reduceSub, Nat.reduceBEq, ↓reduceIte, b2, ec, eA, shut_col]); simp only [go_sem, reduceCtorEq, Nat.reduceEqDiff, Nat.reduceLT, Nat.reduceLeDiff, Nat.reduceAdd, ↓reduceIte, b2]) | (refine call_of (cG) ?_ ?_; (first | rfl | simp only [go_sem, reduceCtorEq, Nat.reduceEqDiff, Nat.reduceLT, Nat.reduceLeDiff, Nat.reduceAdd, Nat.reduceMul, Nat.reduceSub, Nat.reduceBEq, ↓reduceIte, b2, ec, eA, shut_col]); simp only [go_sem, Nat.reduceLeDiff, Nat.reduceAdd, ↓reduceIte, ec]) | (refine call_of (cT) ?_ ?_; (first | rfl | simp only [go_sem, reduceCtorEq, Nat.reduceEqDiff, Nat.reduceLT, Nat.reduceLeDiff, Nat.reduceAdd, Nat.reduceMul, Nat.reduceSub, Nat.reduceBEq, ↓reduceIte, b2, ec, eA, shut_col]); simp only [go_sem, reduceCtorEq, Nat.reduceEqDiff, Nat.reduceLT, Nat.reduceLeDiff, Nat.reduceAdd, Nat.reduceBEq, ↓reduceIte, Bool.true_or, Bool.false_or]) | refine k_of (by assumption) ?_ | (refine tr_ret ?_; try simp only [ex_seq_ret, ex_block_ret]))
  refine (hQ _ _ [bA true] ?_ (fun m => ?_)).2 <;> simp only [go_sem, ↓reduceIte, Tryd.f4,]
  rfl
/-! ### light policies -/
structure Lt13 (p : Pol) : Prop where
  p12 : Pol12 p
  rn : p.rules.length ≤ 70
  gn : p.grants.length ≤ 70
  rules : ∀ r ∈ p.rules, AtSz r.head ∧ (∀ a ∈ r.body, AtSz a) ∧ r.body.length ≤ 9
  grants : ∀ g ∈ p.grants, g.tw.size ≤ 300 ∧ AtSz g.head ∧ (∀ a ∈ g.body, AtSz a) ∧ g.body.length ≤ 9
theorem cls_sz {p : Pol} (h : Lt13 p) : ∀ c ∈ clausesF p, AtSz c.head ∧ (∀ a ∈ c.body, AtSz a) ∧ c.body.length ≤ 10 := fun c hc => by
  unfold clausesF at hc
  rw [List.mem_append] at hc
  rcases hc with hc | hc
  · obtain ⟨r, hr, rfl⟩ := List.mem_map.1 hc
    obtain ⟨q1, q2, q3⟩ := h.rules r hr
    exact ⟨q1, q2, Nat.le_trans q3 (by decide)⟩
  · obtain ⟨g, hg, rfl⟩ := List.mem_map.1 hc
    obtain ⟨q0, q1, q2, q3⟩ := h.grants g hg
    refine ⟨q1, fun a ha => ?_, by show (leadA g :: g.body).length ≤ 10; simp only [List.length_cons]; omega⟩
    rcases List.mem_cons.1 ha with rfl | ha
    · exact ⟨Nat.le_trans q0 (by decide), q1.2.1, fun k => by rw [lead_arg]; exact q1.2.2 k⟩
    · exact q2 a ha
theorem clauses13_does {p : Pol} (h : Lt13 p) : Does Tryd.prog 6 [poA p] (fun m => (.c (slC clsC (clausesF p).isEmpty (clausesF p)), m)) :=
  (clauses_does p (by have := h.rn; omega) (by have := h.gn; omega) (fun r hr => by have := (h.rules r hr).2.2; omega) (fun g hg => by have := (h.grants g hg).2.2.2; omega)).shut
end Go.Proofs.YtinbfakpjnnagaaDoor
namespace Go.Proofs.YtinbfakpjnnagaaDoor
open Go.RowKit Go.Vs Go.Vs.Ab
set_option maxRecDepth 100000
set_option maxHeartbeats 4000000
/-! ### an atom's form -/
def vt (k : Nat) : Tm := ⟨true, vname k⟩
def form0 (a : Atm) : Atm := { zAt with says := a.says, pred := a.pred, n := a.n }
def formK (a : Atm) : Nat → Atm
  | 0 => form0 a
  | k + 1 => Atm.setArg (formK a k) k (vt k)
def formA (a : Atm) : Atm := formK a a.count
theorem form_does (a : Atm) : Does Tryd.prog 16 [atA a] (fun m => (atA (formA a), m)) := by
  have h4 := a.count_le
  refine does_of' Tryd.func16 rfl (by kernel_rfl) rfl Tryd.ntmps16 rfl rfl fun Q hQ => ?_
  repeat (first | refine tr_seq_k fun _ _ => ?_ | (refine tr_region ?_; simp only [go_sem, List.getElem?_toArray, reduceCtorEq, Nat.reduceEqDiff, Nat.reduceLT, Nat.reduceLeDiff, Nat.reduceAdd, ↓reduceIte, count_if]) | refine k_of (by assumption) ?_ | refine tr_block ?_)
  refine tr_loop_k (σ := Nat) (fun k => [(1, .ptr 0 0), (2, .ptr 1 0), (3, .ptr 2 0), (15, iA a.count), (16, iA k)]) (fun k => ⟨[⟨false, ([.c (.v (.string a.says)), .c (.v (.string a.pred)), .c (.v (.int .i64 a.n)), .c (.v (.bool a.a0.v)), .c (.v (.string a.a0.name)), .c (.v (.bool a.a1.v)), .c (.v (.string a.a1.name)), .c (.v (.bool a.a2.v)), .c (.v (.string a.a2.name)), .c (.v (.bool a.a3.v)), .c (.v (.string a.a3.name))] : List AV)⟩, ⟨false, (atC zAt).map .c⟩, ⟨false, ([.c (.v (.string (formK a k).says)), .c (.v (.string (formK a k).pred)), .c (.v (.int .i64 (formK a k).n)), .c (.v (.bool (formK a k).a0.v)), .c (.v (.string (formK a k).a0.name)), .c (.v (.bool (formK a k).a1.v)), .c (.v (.string (formK a k).a1.name)), .c (.v (.bool (formK a k).a2.v)), .c (.v (.string (formK a k).a2.name)), .c (.v (.bool (formK a k).a3.v)), .c (.v (.string (formK a k).a3.name))] : List AV)⟩], []⟩)
    (fun k => k ≤ a.count) (fun k => a.count - k) 0 (Nat.zero_le _) ⟨rfl, rfl, rfl, rfl, rfl, trivial⟩ rfl ?_
  rintro k hk K hK
  repeat (first | refine tr_seq_k fun _ _ => ?_ | (refine tr_region ?_; simp only [go_sem, Nat.reduceEqDiff, Nat.reduceLT, ↓reduceIte]) | refine k_of (by assumption) ?_)
  refine tr_cond rfl (fun ht => ?_) (fun hf => ?_)
  · have hlt : k < a.count := by simpa using ht
    have hk4 : k < 4 := by omega
    have ws := wrap_succ (show k ≤ 1000000000 by omega)
    have ci := itoa_does hk4
    have vc := vcat hk4
    have hst := atSet (formK a k) hk4 (vt k)
    rw [show Atm.setArg (formK a k) k (vt k) = formK a (k + 1) from rfl] at hst
    simp only [vt] at hst
    repeat (first | refine tr_seq_k fun _ _ => ?_ | (refine tr_region ?_; simp only [go_sem, List.getElem?_toArray, reduceCtorEq, Nat.reduceEqDiff, Nat.reduceLT, ↓reduceIte, ws]) | (refine call_of (ci) ?_ ?_; (first | rfl | simp only [go_sem, reduceCtorEq, Nat.reduceEqDiff, Nat.reduceLT, Nat.reduceLeDiff, Nat.reduceAdd, Nat.reduceMul, Nat.reduceSub, Nat.reduceBEq, ↓reduceIte, arrT hk4, vc, leN hk4, hst, ws, shut_col]); simp only [go_sem, Nat.reduceEqDiff, Nat.reduceLT, Nat.reduceLeDiff, Nat.reduceAdd, ↓reduceIte, arrT hk4, vc, leN hk4, hst]) | refine k_of (by assumption) ?_ | refine tr_block ?_ | (refine tr_skip ?_; try simp only [ex_seq]))
    exact hK (k + 1) _ _ hlt ⟨⟨rfl, rfl, rfl, rfl, rfl, trivial⟩, Keep.refl _, rfl, rfl, Nat.le_refl _, Nat.le_refl _⟩ (by omega)
  · have hkl : k = a.count := by
      have := of_decide_eq_false hf
      omega
    subst hkl
    repeat (first | refine tr_seq_k fun _ _ => ?_ | (refine tr_region ?_; simp only [go_sem, Nat.reduceEqDiff, Nat.reduceLT, Nat.reduceLeDiff, Nat.reduceAdd, ↓reduceIte]) | refine k_of (by assumption) ?_ | (refine tr_exit ?_; try simp only [ex_seq_exit, ex_block_exit, ex_seq, ↓reduceIte]) | (refine tr_ret ?_; try simp only [ex_seq_ret, ex_block_ret]))
    refine (hQ _ _ [atA (formA a)] ?_ (fun m => rfl)).2 <;> simp only [go_sem, Nat.reduceEqDiff, Nat.reduceLeDiff, Nat.reduceAdd, ↓reduceIte, Tryd.f16]
    rfl
/-! ### the atoms of a policy's clauses -/
def atomsK (l : List Cls) (k : Nat) : List Atm := (l.take k).flatMap fun c => c.head :: c.body
def atomsF (p : Pol) : List Atm := (clausesF p).flatMap fun c => c.head :: c.body
theorem atomsK_next {l : List Cls} {k : Nat} (hk : k < l.length) : atomsK l (k + 1) = (atomsK l k ++ [l[k].head]) ++ l[k].body := by
  unfold atomsK
  rw [List.take_succ_eq_append_getElem hk, List.flatMap_append]
  simp
theorem atomsK_len {l : List Cls} (h : ∀ c ∈ l, c.body.length ≤ 10) : ∀ k, k ≤ l.length → (atomsK l k).length ≤ 11 * k
  | 0, _ => by simp [atomsK]
  | k + 1, hk => by
    have := atomsK_len h k (by omega)
    have h2 := h _ (List.getElem_mem (show k < l.length by omega))
    rw [atomsK_next (by omega)]
    simp only [List.length_append, List.length_cons, List.length_nil]
    omega
theorem appAs (hp : List Blk) (l r : List Atm) (ex : Bool) (hl : l.length + r.length ≤ 1000000) : aAppend Tryd.prog ⟨hp, colH 39 11 l⟩ 33 (colA atC 0 l) (.c (slC atC ex r)) = some (colA atC 0 (l ++ r), ⟨hp, colH 39 11 (l ++ r)⟩) :=
  app_any (P := Tryd.prog) atC (size := 11) (bytes := 136) (fun _ => rfl) Tryd.underlying33 info_a (hp := hp) (l := l) (r := r) (ex := ex) (Nat.le_trans hl (by decide)) (by omega)
end Go.Proofs.YtinbfakpjnnagaaDoor
namespace Go.Proofs.YtinbfakpjnnagaaDoor
open Go.RowKit Go.Vs Go.Vs.Ab
set_option maxRecDepth 100000
set_option maxHeartbeats 4000000
/-! ### slices.Index, slices.Contains at texts -/
def idxOf (l : List ByteArray) (s : ByteArray) : Int := if hasB l s = true then (posOf l s : Int) else -1
theorem posOf_here {l : List ByteArray} {s : ByteArray} {k : Nat} (h : k < l.length) (h1 : s ∉ l.take k) (h2 : l[k] = s) : posOf l s = k := by
  induction l generalizing k with
  | nil => simp at h
  | cons y l ih =>
    unfold posOf
    cases k with
    | zero => rw [if_pos (by simpa using h2)]
    | succ k =>
      rw [List.take_succ_cons, List.mem_cons, not_or] at h1
      rw [if_neg (fun e => h1.1 e.symm)]
      rw [ih (by simpa using h) h1.2 (by simpa using h2)]
theorem indexS_does (l : List ByteArray) (s : ByteArray) (ex : Bool) (hl : l.length ≤ 1000000) : Does Tryd.prog 55 [.c (slC stC ex l), sA s] (fun m => (iA (idxOf l s), m)) := by
  refine does_of' Tryd.func55 rfl (by kernel_rfl) rfl Tryd.ntmps55 rfl rfl fun Q hQ => ?_
  repeat (first | refine tr_seq_k fun _ _ => ?_ | (refine tr_region ?_; simp only [go_sem, List.getElem?_toArray, reduceCtorEq, Nat.reduceEqDiff, Nat.reduceLT, ↓reduceIte]) | refine k_of (by assumption) ?_ | refine tr_block ?_)
  refine tr_loop_k (σ := Nat) (fun k => [(0, .c (slC stC ex l)), (1, sA s), (7, iA l.length), (8, iA k)]) (fun _ => ⟨[], []⟩)
    (fun k => k ≤ l.length ∧ s ∉ l.take k) (fun k => l.length - k) 0 ⟨Nat.zero_le _, by simp⟩ ⟨rfl, rfl, rfl, rfl, trivial⟩ rfl ?_
  rintro k ⟨hk, hp⟩ K hK
  repeat (first | refine tr_seq_k fun _ _ => ?_ | (refine tr_region ?_; simp only [go_sem, reduceCtorEq, Nat.reduceEqDiff, Nat.reduceLT, ↓reduceIte]) | refine k_of (by assumption) ?_)
  refine tr_cond rfl (fun ht => ?_) (fun hf => ?_)
  · have hlt : k < l.length := by
      have := of_decide_eq_true ht
      omega
    have ws := wrap_succ (show k ≤ 1000000000 by omega)
    have ix := idxS12 (ex := ex) hlt
    by_cases he : s = l[k]
    · have hpos := posOf_here hlt hp he.symm
      have hin : s ∈ l := he ▸ List.getElem_mem hlt
      have e1 : idxOf l s = (k : Int) := by unfold idxOf; rw [if_pos (hasB_iff.2 hin), hpos]
      have q : decide (s = l[k]) = true := decide_eq_true he
      repeat (first | refine tr_seq_k fun _ _ => ?_ | (refine tr_region ?_; simp only [go_sem, str_beq, reduceCtorEq, Nat.reduceEqDiff, Nat.reduceLT, ↓reduceIte, ix, q]) | refine k_of (by assumption) ?_ | refine tr_block ?_ | (refine tr_skip ?_; try simp only [ex_seq]))
      refine tr_cond rfl (fun ht => ?_) (fun hf => ?_)
      · repeat (first | refine tr_seq_k fun _ _ => ?_ | (refine tr_region ?_; simp only [go_sem, reduceCtorEq, Nat.reduceEqDiff, Nat.reduceLT, ↓reduceIte]) | refine k_of (by assumption) ?_ | (refine tr_ret ?_; try simp only [ex_seq_ret, ex_block_ret]))
        rw [e1] at hQ
        refine (hQ _ _ [iA k] ?_ (fun m => rfl)).2 <;> simp only [go_sem, reduceCtorEq, Nat.reduceEqDiff, ↓reduceIte, Tryd.f55]
      · cases hf
    · have q : decide (s = l[k]) = false := decide_eq_false he
      repeat (first | refine tr_seq_k fun _ _ => ?_ | (refine tr_region ?_; simp only [go_sem, str_beq, reduceCtorEq, Nat.reduceEqDiff, Nat.reduceLT, ↓reduceIte, ix, q]) | refine k_of (by assumption) ?_ | refine tr_block ?_ | (refine tr_skip ?_; try simp only [ex_seq]))
      refine tr_cond rfl (fun ht => ?_) (fun hf => ?_)
      · cases ht
      · repeat (first | (refine tr_region ?_; simp only [go_sem, reduceCtorEq, Nat.reduceEqDiff, Nat.reduceLT, ↓reduceIte, ws]) | refine k_of (by assumption) ?_ | (refine tr_skip ?_; try simp only [ex_seq, ex_block]))
        refine hK (k + 1) _ _ ⟨hlt, ?_⟩ ⟨⟨rfl, rfl, rfl, rfl, trivial⟩, Keep.refl _, rfl, rfl, Nat.le_refl _, Nat.le_refl _⟩ (by omega)
        rw [List.take_succ_eq_append_getElem hlt, List.mem_append, List.mem_singleton, not_or]
        exact ⟨hp, he⟩
  · have hkl : k = l.length := by
      have := of_decide_eq_false hf
      omega
    subst hkl
    rw [List.take_length] at hp
    have e1 : idxOf l s = -1 := by unfold idxOf; rw [if_neg (fun h => hp (hasB_iff.1 h))]
    repeat (first | refine tr_seq_k fun _ _ => ?_ | (refine tr_region ?_; simp only [go_sem, reduceCtorEq, Nat.reduceEqDiff, Nat.reduceLT, ↓reduceIte]) | refine k_of (by assumption) ?_ | (refine tr_exit ?_; try simp only [ex_seq_exit, ex_block_exit, ex_seq, ↓reduceIte]) | (refine tr_ret ?_; try simp only [ex_seq_ret, ex_block_ret]))
    rw [e1] at hQ
    refine (hQ _ _ [iA (-1)] ?_ (fun m => rfl)).2 <;> simp only [go_sem, reduceCtorEq, Nat.reduceEqDiff, ↓reduceIte, Tryd.f55]
theorem containsS_does (l : List ByteArray) (s : ByteArray) (ex : Bool) (hl : l.length ≤ 1000000) : Does Tryd.prog 43 [.c (slC stC ex l), sA s] (fun m => (bA (hasB l s), m)) := by
  have c1 := indexS_does l s ex hl
  have q : decide (idxOf l s ≥ 0) = hasB l s := by
    unfold idxOf
    cases h : hasB l s with
    | true =>
      rw [if_pos rfl]
      exact decide_eq_true (Int.natCast_nonneg _)
    | false =>
      rw [if_neg (fun e => by cases e)]
      rfl
  refine does_of' Tryd.func43 rfl (by kernel_rfl) rfl Tryd.ntmps43 rfl rfl fun Q hQ => ?_
  repeat (first | refine tr_seq_k fun _ _ => ?_ | (refine tr_region ?_; simp only [go_sem, reduceCtorEq, Nat.reduceEqDiff, Nat.reduceLT, ↓reduceIte]) | (refine call_of (c1) ?_ ?_; (first | rfl | simp only [go_sem, reduceCtorEq, Nat.reduceEqDiff, Nat.reduceLT, Nat.reduceLeDiff, Nat.reduceAdd, Nat.reduceMul, Nat.reduceSub, Nat.reduceBEq, ↓reduceIte, q, shut_col]); simp only [go_sem, reduceCtorEq, Nat.reduceEqDiff, Nat.reduceLT, ↓reduceIte, q]) | refine k_of (by assumption) ?_ | (refine tr_ret ?_; try simp only [ex_seq_ret, ex_block_ret]))
  refine (hQ _ _ [bA (hasB l s)] ?_ (fun m => ?_)).2 <;> simp only [go_sem, reduceCtorEq, Nat.reduceEqDiff, ↓reduceIte, Tryd.f43]
/-! ### the constants -/
theorem mem_pnamesC {a : Atm} {x : ByteArray} : ∀ {k : Nat}, k ≤ 4 → (x ∈ pnamesK a false k ↔ ∃ i, i < k ∧ (a.arg i).v = false ∧ (a.arg i).name = x)
  | 0, _ => ⟨fun h => by simp [pnamesK] at h, fun ⟨i, h, _⟩ => absurd h (Nat.not_lt_zero _)⟩
  | k + 1, hk => by
    have ih := mem_pnamesC (a := a) (x := x) (k := k) (by omega)
    unfold pnamesK
    rw [List.mem_append, ih]
    constructor
    · rintro (⟨i, h1, h2, h3⟩ | h)
      · exact ⟨i, by omega, h2, h3⟩
      · split at h
        · rename_i hc
          rw [List.mem_singleton] at h
          exact ⟨k, by omega, hc.1, h.symm⟩
        · simp at h
    · rintro ⟨i, h1, h2, h3⟩
      by_cases hi : i < k
      · exact Or.inl ⟨i, hi, h2, h3⟩
      · obtain rfl : i = k := by omega
        cases hs : pseen a i i with
        | true =>
          obtain ⟨j, g1, g2⟩ := (pseen_iff a i (by omega)).1 hs
          exact Or.inl ⟨j, g1, by rw [g2]; exact h2, by rw [g2]; exact h3⟩
        | false =>
          right
          rw [if_pos ⟨h2, rfl⟩, h3]
          exact List.mem_singleton.2 rfl
theorem pnamesC_var {a : Atm} {k : Nat} (h : (a.arg k).v = true) : pnamesK a false (k + 1) = pnamesK a false k := by
  show pnamesK a false k ++ _ = _
  rw [if_neg (fun e => by rw [h] at e; cases e.1), List.append_nil]
theorem pnamesC_old {a : Atm} {k : Nat} (hk : k < 4) (h : (a.arg k).v = false) (hm : (a.arg k).name ∈ pnamesK a false k) : pnamesK a false (k + 1) = pnamesK a false k := by
  obtain ⟨j, g1, g2, g3⟩ := (mem_pnamesC (by omega)).1 hm
  have : pseen a k k = true := (pseen_iff a k (by omega)).2 ⟨j, g1, by
    have e1 : a.arg j = ⟨(a.arg j).v, (a.arg j).name⟩ := rfl
    have e2 : a.arg k = ⟨(a.arg k).v, (a.arg k).name⟩ := rfl
    rw [e1, e2, g2, g3, h]⟩
  show pnamesK a false k ++ _ = _
  rw [if_neg (fun e => by rw [this] at e; cases e.2), List.append_nil]
theorem pnamesC_new {a : Atm} {k : Nat} (hk : k < 4) (h : (a.arg k).v = false) (hm : (a.arg k).name ∉ pnamesK a false k) : pnamesK a false (k + 1) = pnamesK a false k ++ [(a.arg k).name] := by
  show pnamesK a false k ++ _ = _
  rw [if_pos]
  refine ⟨h, ?_⟩
  rw [Bool.eq_false_iff]
  intro hs
  obtain ⟨j, g1, g2⟩ := (pseen_iff a k (by omega)).1 hs
  exact hm ((mem_pnamesC (by omega)).2 ⟨j, g1, by rw [g2]; exact h, by rw [g2]⟩)
theorem pnamesC_len (a : Atm) : ∀ k, (pnamesK a false k).length ≤ k
  | 0 => Nat.le_refl _
  | k + 1 => by
    show (pnamesK a false k ++ _).length ≤ _
    have := pnamesC_len a k
    rw [List.length_append]
    split <;> simp <;> omega
theorem bin_tf : pureVal Tryd.prog (binOp .eql 4 (.bool true) (.bool false)) = some (.bool false) := by kernel_rfl
theorem bin_ff : pureVal Tryd.prog (binOp .eql 4 (.bool false) (.bool false)) = some (.bool true) := by kernel_rfl
theorem names13_does (a : Atm) : Does Tryd.prog 31 [atA a, bA false] (freshA stC 9 1 (pnames a false)) := by
  have h4 := a.count_le
  have ca := args_does a
  have hlen : (a.args.take a.count).length = a.count := args_len a h4
  refine does_of' Tryd.func31 rfl (by kernel_rfl) rfl Tryd.ntmps31 rfl rfl fun Q hQ => ?_
  repeat (first | refine tr_seq_k fun _ _ => ?_ | (refine tr_region ?_; simp only [go_sem, List.getElem?_toArray, reduceCtorEq, Nat.reduceEqDiff, Nat.reduceLT, Nat.reduceLeDiff, Nat.reduceAdd, ↓reduceIte]) | (refine call_of (ca) ?_ ?_; (first | rfl | simp only [go_sem, reduceCtorEq, Nat.reduceEqDiff, Nat.reduceLT, Nat.reduceLeDiff, Nat.reduceAdd, Nat.reduceMul, Nat.reduceSub, Nat.reduceBEq, ↓reduceIte, shut_col]); simp only [go_sem, reduceCtorEq, Nat.reduceEqDiff, Nat.reduceLT, ↓reduceIte]) | refine k_of (by assumption) ?_ | refine tr_block ?_)
  refine tr_loop_k (σ := Nat) (fun k => [(1, bA false), (5, colA stC 0 (pnamesK a false k)), (9, slM (Nat.beq 4 a.count) (a.args.take a.count)), (10, iA ((a.args.take a.count).length : Nat)), (11, iA k)]) (fun k => ⟨[⟨false, (atC a).map .c⟩], colH 9 1 (pnamesK a false k)⟩)
    (fun k => k ≤ a.count) (fun k => a.count - k) 0 (Nat.zero_le _) ⟨rfl, rfl, rfl, rfl, rfl, trivial⟩ rfl ?_
  rintro k hk K hK
  repeat (first | refine tr_seq_k fun _ _ => ?_ | (refine tr_region ?_; simp only [go_sem, Nat.reduceEqDiff, Nat.reduceLT, ↓reduceIte]) | refine k_of (by assumption) ?_)
  refine tr_cond rfl (fun ht => ?_) (fun hf => ?_)
  · have hlt : k < a.count := by
      have := of_decide_eq_true ht
      omega
    have ws := wrap_succ (show k ≤ 1000000000 by omega)
    have hla : k < (a.args.take a.count).length := by omega
    have hix := idxM (ex := Nat.beq 4 a.count) hla
    rw [args_get a h4 hla] at hix
    have tl := pnamesC_len a k
    cases h1 : (a.arg k).v with
    | true =>
      have on := pnamesC_var h1
      repeat (first | refine tr_seq_k fun _ _ => ?_ | (refine tr_region ?_; simp only [go_sem, List.getElem?_toArray, reduceCtorEq, Nat.reduceEqDiff, Nat.reduceLT, Nat.reduceLeDiff, Nat.reduceAdd, ↓reduceIte, hix, h1, bin_tf]) | refine k_of (by assumption) ?_ | refine tr_block ?_ | (refine tr_skip ?_; try simp only [ex_seq]))
      refine tr_cond rfl (fun ht => ?_) (fun hf => ?_)
      · cases ht
      · repeat (first | (refine tr_region ?_; simp only [go_sem, Nat.reduceEqDiff, Nat.reduceLT, ↓reduceIte, ws]) | refine k_of (by assumption) ?_ | (refine tr_skip ?_; try simp only [ex_seq, ex_block]))
        rw [← on]
        exact hK (k + 1) _ _ hlt ⟨⟨rfl, rfl, rfl, rfl, rfl, trivial⟩, Keep.of (eh := [_]) (ew := []) rfl (by rw [List.append_nil]), by simp only [lowF, low_col]; rfl, rfl, Nat.le_refl _, Nat.zero_le _⟩ (by omega)
    | false =>
      by_cases hm : (a.arg k).name ∈ pnamesK a false k
      · have on := pnamesC_old (by omega) h1 hm
        have hne : pnamesK a false k ≠ [] := fun e => by rw [e] at hm; simp at hm
        have cC := containsS_does (pnamesK a false k) (a.arg k).name false (by omega)
        rw [hasB_iff.2 hm] at cC
        rw [colA_ne stC 0 hne, colH_ne _ _ hne] at *
        repeat (first | refine tr_seq_k fun _ _ => ?_ | (refine tr_region ?_; simp only [go_sem, List.getElem?_toArray, reduceCtorEq, Nat.reduceEqDiff, Nat.reduceLT, Nat.reduceLeDiff, Nat.reduceAdd, ↓reduceIte, hix, h1, bin_ff]) | (refine call_of (cC) ?_ ?_; (first | rfl | simp only [go_sem, reduceCtorEq, Nat.reduceEqDiff, Nat.reduceLT, Nat.reduceLeDiff, Nat.reduceAdd, Nat.reduceMul, Nat.reduceSub, Nat.reduceBEq, ↓reduceIte, hix, h1, bin_ff, shut_col]); simp only [go_sem, Nat.reduceEqDiff, Nat.reduceLT, ↓reduceIte]) | refine k_of (by assumption) ?_ | refine tr_block ?_ | (refine tr_skip ?_; try simp only [ex_seq]))
        refine tr_cond rfl (fun ht => ?_) (fun hf => ?_)
        · cases ht
        · repeat (first | (refine tr_region ?_; simp only [go_sem, Nat.reduceEqDiff, Nat.reduceLT, ↓reduceIte, ws]) | refine k_of (by assumption) ?_ | (refine tr_skip ?_; try simp only [ex_seq, ex_block]))
          exact hK (k + 1) _ _ hlt ⟨⟨rfl, by rw [on, colA_ne stC 0 hne]; rfl, rfl, rfl, rfl, trivial⟩, by rw [on, colH_ne _ _ hne]; exact Keep.of (eh := [_]) (ew := []) rfl (by rw [List.append_nil]), by rw [on]; simp only [lowF, low_col]; rfl, rfl, Nat.le_refl _, Nat.zero_le _⟩ (by omega)
      · have on := pnamesC_new (by omega) h1 hm
        have ap := fun hp => appS hp (pnamesK a false k) (a.arg k).name (by omega)
        rw [← on] at ap
        have b1 := build1T (a.arg k).name
        by_cases h0 : pnamesK a false k = []
        · have cC := containsS_does [] (a.arg k).name true (by simp)
          rw [show hasB [] (a.arg k).name = false from rfl] at cC
          rw [h0] at ap ⊢
          repeat (first | refine tr_seq_k fun _ _ => ?_ | (refine tr_region ?_; simp only [go_sem, List.getElem?_toArray, reduceCtorEq, Nat.reduceEqDiff, Nat.reduceLT, Nat.reduceLeDiff, Nat.reduceAdd, ↓reduceIte, hix, h1, bin_ff]) | (refine call_of (cC) ?_ ?_; (first | rfl | simp only [go_sem, reduceCtorEq, Nat.reduceEqDiff, Nat.reduceLT, Nat.reduceLeDiff, Nat.reduceAdd, Nat.reduceMul, Nat.reduceSub, Nat.reduceBEq, ↓reduceIte, hix, h1, bin_ff, shut_col]); simp only [go_sem, Nat.reduceEqDiff, Nat.reduceLT, ↓reduceIte]) | refine k_of (by assumption) ?_ | refine tr_block ?_ | (refine tr_skip ?_; try simp only [ex_seq]))
          refine tr_cond rfl (fun ht => ?_) (fun hf => ?_)
          · repeat (first | (refine tr_region ?_; simp only [go_sem, List.getElem?_toArray, reduceCtorEq, Nat.reduceEqDiff, Nat.reduceLT, ↓reduceIte, b1, one_max, ap, ws]) | refine k_of (by assumption) ?_)
            exact hK (k + 1) _ _ hlt ⟨⟨rfl, rfl, rfl, rfl, rfl, trivial⟩, Keep.of (eh := [_]) (ew := []) rfl (by rw [List.append_nil]), by simp only [lowF, low_col]; rfl, rfl, Nat.le_refl _, Nat.zero_le _⟩ (by omega)
          · cases hf
        · have cC := containsS_does (pnamesK a false k) (a.arg k).name false (by omega)
          rw [show hasB (pnamesK a false k) (a.arg k).name = false from by rw [Bool.eq_false_iff]; exact fun e => hm (hasB_iff.1 e)] at cC
          rw [colA_ne stC 0 h0, colH_ne _ _ h0] at ap ⊢
          repeat (first | refine tr_seq_k fun _ _ => ?_ | (refine tr_region ?_; simp only [go_sem, List.getElem?_toArray, reduceCtorEq, Nat.reduceEqDiff, Nat.reduceLT, Nat.reduceLeDiff, Nat.reduceAdd, ↓reduceIte, hix, h1, bin_ff]) | (refine call_of (cC) ?_ ?_; (first | rfl | simp only [go_sem, reduceCtorEq, Nat.reduceEqDiff, Nat.reduceLT, Nat.reduceLeDiff, Nat.reduceAdd, Nat.reduceMul, Nat.reduceSub, Nat.reduceBEq, ↓reduceIte, hix, h1, bin_ff, shut_col]); simp only [go_sem, Nat.reduceEqDiff, Nat.reduceLT, ↓reduceIte]) | refine k_of (by assumption) ?_ | refine tr_block ?_ | (refine tr_skip ?_; try simp only [ex_seq]))
          refine tr_cond rfl (fun ht => ?_) (fun hf => ?_)
          · repeat (first | (refine tr_region ?_; simp only [go_sem, List.getElem?_toArray, reduceCtorEq, Nat.reduceEqDiff, Nat.reduceLT, ↓reduceIte, b1, one_max, ap, ws]) | refine k_of (by assumption) ?_)
            exact hK (k + 1) _ _ hlt ⟨⟨rfl, rfl, rfl, rfl, rfl, trivial⟩, Keep.of (eh := [_]) (ew := []) rfl (by rw [List.append_nil]), by simp only [lowF, low_col]; rfl, rfl, Nat.le_refl _, Nat.zero_le _⟩ (by omega)
          · cases hf
  · have hkl : k = a.count := by
      have := of_decide_eq_false hf
      omega
    subst hkl
    repeat (first | refine tr_seq_k fun _ _ => ?_ | (refine tr_region ?_; simp only [go_sem, Nat.reduceEqDiff, Nat.reduceLT, ↓reduceIte]) | refine k_of (by assumption) ?_ | (refine tr_exit ?_; try simp only [ex_seq_exit, ex_block_exit, ex_seq, ↓reduceIte]) | (refine tr_ret ?_; try simp only [ex_seq_ret, ex_block_ret]))
    refine (hQ _ _ [colA stC 0 (pnames a false)] ?_ (fun m => ret_col stC 9 1 _ _ m)).2 <;> simp only [go_sem, Nat.reduceEqDiff, ↓reduceIte, Tryd.f31]
    rfl
end Go.Proofs.YtinbfakpjnnagaaDoor
namespace Go.Proofs
open Go.Shelf
def Tryd.sortS_ren : Go.Shelf.Ren := ⟨fun | 6 => 33 | 8 => 46 | 9 => 45 | 19 => 65 | 20 => 66 | 21 => 56 | 22 => 57 | 23 => 58 | 24 => 59 | 25 => 60 | 26 => 61 | 27 => 62 | 28 => 63 | 29 => 64 | 36 => 76 | 31 => 77 | 32 => 78 | 37 => 79 | 38 => 80 | 39 => 81 | 41 => 88 | n => n, fun | 27 => 23 | 29 => 9 | 3 => 3 | 32 => 103 | 26 => 23 | 0 => 0 | 44 => 120 | 46 => 122 | 4 => 4 | 36 => 112 | 35 => 111 | 41 => 117 | 5 => 5 | 9 => 9 | 53 => 130 | 57 => 134 | 63 => 142 | 64 => 143 | n => n, fun | n => n⟩
theorem Tryd.sortS : Go.Proofs.SlLaysM.n6 Tryd.prog Tryd.sortS_ren := {
  mixed := by kernel_rfl
  f6 := ⟨Tryd.f33.name, by decide, Tryd.func33.trans (congrArg some (by kernel_rfl))⟩
  f8 := Tryd.func46.trans (congrArg some (by kernel_rfl))
  f9 := ⟨Tryd.f45.name, by decide, Tryd.func45.trans (congrArg some (by kernel_rfl))⟩
  f19 := Tryd.func65.trans (congrArg some (by kernel_rfl))
  f20 := Tryd.func66.trans (congrArg some (by kernel_rfl))
  f21 := ⟨Tryd.f56.name, by decide, Tryd.func56.trans (congrArg some (by kernel_rfl))⟩
  f22 := ⟨Tryd.f57.name, by decide, Tryd.func57.trans (congrArg some (by kernel_rfl))⟩
  f23 := ⟨Tryd.f58.name, by decide, Tryd.func58.trans (congrArg some (by kernel_rfl))⟩
  f24 := ⟨Tryd.f59.name, by decide, Tryd.func59.trans (congrArg some (by kernel_rfl))⟩
  f25 := ⟨Tryd.f60.name, by decide, Tryd.func60.trans (congrArg some (by kernel_rfl))⟩
  f26 := ⟨Tryd.f61.name, by decide, Tryd.func61.trans (congrArg some (by kernel_rfl))⟩
  f27 := ⟨Tryd.f62.name, by decide, Tryd.func62.trans (congrArg some (by kernel_rfl))⟩
  f28 := ⟨Tryd.f63.name, by decide, Tryd.func63.trans (congrArg some (by kernel_rfl))⟩
  f29 := ⟨Tryd.f64.name, by decide, Tryd.func64.trans (congrArg some (by kernel_rfl))⟩
  f31 := Tryd.func77.trans (congrArg some (by kernel_rfl))
  f32 := Tryd.func78.trans (congrArg some (by kernel_rfl))
  f36 := ⟨Tryd.f76.name, by decide, Tryd.func76.trans (congrArg some (by kernel_rfl))⟩
  f37 := ⟨Tryd.f79.name, by decide, Tryd.func79.trans (congrArg some (by kernel_rfl))⟩
  f38 := ⟨Tryd.f80.name, by decide, Tryd.func80.trans (congrArg some (by kernel_rfl))⟩
  f39 := ⟨Tryd.f81.name, by decide, Tryd.func81.trans (congrArg some (by kernel_rfl))⟩
  f41 := ⟨Tryd.f88.name, by decide, Tryd.func88.trans (congrArg some (by kernel_rfl))⟩
  t0 := Tryd.underlying0
  a0 := Tryd.isAgg0
  z0 := Tryd.sizeOf0
  v0 := Tryd.zeroValue0
  t3 := Tryd.underlying3
  a3 := Tryd.isAgg3
  z3 := Tryd.sizeOf3
  v3 := Tryd.zeroValue3
  t4 := Tryd.underlying4
  a4 := Tryd.isAgg4
  z4 := Tryd.sizeOf4
  v4 := Tryd.zeroValue4
  t5 := Tryd.underlying5
  a5 := Tryd.isAgg5
  z5 := Tryd.sizeOf5
  v5 := Tryd.zeroValue5
  t9 := Tryd.underlying9
  a9 := Tryd.isAgg9
  z9 := Tryd.sizeOf9
  v9 := Tryd.zeroValue9
  t26 := Tryd.underlying23
  a26 := Tryd.isAgg23
  z26 := Tryd.sizeOf23
  v26 := Tryd.zeroValue23
  t27 := Tryd.underlying23
  a27 := Tryd.isAgg23
  z27 := Tryd.sizeOf23
  v27 := Tryd.zeroValue23
  t29 := Tryd.underlying9
  a29 := Tryd.isAgg9
  z29 := Tryd.sizeOf9
  v29 := Tryd.zeroValue9
  t32 := Tryd.underlying103
  a32 := Tryd.isAgg103
  z32 := Tryd.sizeOf103
  v32 := Tryd.zeroValue103
  t35 := Tryd.underlying111
  a35 := Tryd.isAgg111
  z35 := Tryd.sizeOf111
  v35 := Tryd.zeroValue111
  t36 := Tryd.underlying112
  a36 := Tryd.isAgg112
  z36 := Tryd.sizeOf112
  v36 := Tryd.zeroValue112
  t41 := Tryd.underlying117
  a41 := Tryd.isAgg117
  z41 := Tryd.sizeOf117
  v41 := Tryd.zeroValue117
  t44 := Tryd.underlying120
  a44 := Tryd.isAgg120
  z44 := Tryd.sizeOf120
  v44 := Tryd.zeroValue120
  t46 := Tryd.underlying122
  a46 := Tryd.isAgg122
  z46 := Tryd.sizeOf122
  v46 := Tryd.zeroValue122
  t53 := Tryd.underlying130
  a53 := Tryd.isAgg130
  z53 := Tryd.sizeOf130
  v53 := Tryd.zeroValue130
  t57 := Tryd.underlying134
  a57 := Tryd.isAgg134
  z57 := Tryd.sizeOf134
  v57 := Tryd.zeroValue134
  t63 := Tryd.underlying142
  a63 := Tryd.isAgg142
  z63 := Tryd.sizeOf142
  v63 := Tryd.zeroValue142
  t64 := Tryd.underlying143
  a64 := Tryd.isAgg143
  z64 := Tryd.sizeOf143
  v64 := Tryd.zeroValue143 }
def Tryd.sortedS_ren : Go.Shelf.Ren := ⟨fun | 6 => 20 | 8 => 32 | 9 => 33 | 11 => 44 | 13 => 46 | 12 => 45 | 23 => 65 | 24 => 66 | 14 => 56 | 15 => 57 | 16 => 58 | 17 => 59 | 18 => 60 | 19 => 61 | 20 => 62 | 21 => 63 | 22 => 64 | 25 => 76 | 26 => 77 | 27 => 78 | 28 => 79 | 29 => 80 | 30 => 81 | 31 => 88 | n => n, fun | 26 => 9 | 28 => 70 | 24 => 23 | 0 => 0 | 3 => 3 | 37 => 103 | 48 => 120 | 50 => 122 | 4 => 4 | 40 => 112 | 39 => 111 | 45 => 117 | 5 => 5 | 9 => 9 | 51 => 130 | 55 => 134 | 57 => 142 | 58 => 143 | 33 => 83 | n => n, fun | n => n⟩
theorem Tryd.sortedS : Go.Proofs.SlLaysZ.n6 Tryd.prog Tryd.sortedS_ren := {
  mixed := by kernel_rfl
  f6 := ⟨Tryd.f20.name, by decide, Tryd.func20.trans (congrArg some (by kernel_rfl))⟩
  f8 := ⟨Tryd.f32.name, by decide, Tryd.func32.trans (congrArg some (by kernel_rfl))⟩
  f11 := ⟨Tryd.f44.name, by decide, Tryd.func44.trans (congrArg some (by kernel_rfl))⟩
  t0 := Tryd.underlying0
  a0 := Tryd.isAgg0
  z0 := Tryd.sizeOf0
  v0 := Tryd.zeroValue0
  t24 := Tryd.underlying23
  a24 := Tryd.isAgg23
  z24 := Tryd.sizeOf23
  v24 := Tryd.zeroValue23
  t26 := Tryd.underlying9
  a26 := Tryd.isAgg9
  z26 := Tryd.sizeOf9
  v26 := Tryd.zeroValue9
  t28 := Tryd.underlying70
  a28 := Tryd.isAgg70
  z28 := Tryd.sizeOf70
  v28 := Tryd.zeroValue70
  i26 := by kernel_rfl }
def Tryd.keys1S_ren : Go.Shelf.Ren := ⟨fun | 10 => 34 | n => n, fun | 33 => 83 | 23 => 66 | 0 => 0 | 4 => 4 | 26 => 9 | 3 => 62 | n => n, fun | n => n⟩
theorem Tryd.keys1S : Go.Proofs.SlLaysZ.n10 Tryd.prog Tryd.keys1S_ren := {
  mixed := by kernel_rfl
  f10 := ⟨Tryd.f34.name, by decide, Tryd.func34.trans (congrArg some (by kernel_rfl))⟩
  t0 := Tryd.underlying0
  a0 := Tryd.isAgg0
  z0 := Tryd.sizeOf0
  v0 := Tryd.zeroValue0
  t4 := Tryd.underlying4
  a4 := Tryd.isAgg4
  z4 := Tryd.sizeOf4
  v4 := Tryd.zeroValue4
  t23 := Tryd.underlying66
  a23 := Tryd.isAgg66
  z23 := Tryd.sizeOf66
  v23 := Tryd.zeroValue66
  t26 := Tryd.underlying9
  a26 := Tryd.isAgg9
  z26 := Tryd.sizeOf9
  v26 := Tryd.zeroValue9
  t33 := Tryd.underlying83
  a33 := Tryd.isAgg83
  z33 := Tryd.sizeOf83
  v33 := Tryd.zeroValue83 }
end Go.Proofs
namespace Go.Proofs.YtinbfakpjnnagaaDoor
open Go.RowKit Go.Maps Go.Sort Go.Shelf Go.Vs Go.Vs.Ab
open Go.WideElems (rd rg)
set_option maxRecDepth 100000
set_option maxHeartbeats 4000000
/-! ### a set of texts in the world -/
abbrev u0 : Value := .agg #[]
abbrev lkS (s : ByteArray) : Lit := .string s.data.toList
def RU : Value → Option (DataW Unit × List MemPlace) := fun _ => some (.agg [], [])
def itS (l : List ByteArray) : List (Lit × DataW Unit) := l.map fun s => (lkS s, .agg [])
def DS (l : List ByteArray) : DataW Unit := .map ((itS l).foldr DataW.insert [])
theorem own_set {w : World} {b : Nat} {arr : Array MapEntry} {clock : Nat} {l : List ByteArray} (hb : w.heap[b]? = some (.map arr clock)) (hm : MapIs (setEs .string u0 l) arr clock) (hnd : l.Nodup) (hs : ∀ s ∈ l, s.size ≤ maxLen) (hl : l.length ≤ maxLen) :
    w.ownsMap Tryd.prog 9 RU b l.length (DS l) := by
  have hsz : arr.size = l.length := by
    have := congrArg List.length hm.es
    rw [List.length_map, setEs_len, Array.length_toList] at this
    exact this
  have hes : arr.toList.map (fun e => (e.key, e.val)) = l.map fun s => (Value.string s, u0) := by
    rw [hm.es]
    simp [setEs, encE]
  have hrd : ∀ s ∈ l, ∀ born, rd Tryd.prog 9 RU ⟨.string s, u0, born⟩ = some (lkS s, .agg []) := fun s hp born =>
    Go.WideElems.rd_mk (R := RU) (yv := (.agg [], [])) (WideMaps.keyOf_string_mk Tryd.underlying9 (hs s hp)) rfl
  have hx : ∀ x ∈ arr.toList, ∃ s ∈ l, x = ⟨.string s, u0, x.born⟩ := fun x hx => by
    have : (x.key, x.val) ∈ arr.toList.map (fun e => (e.key, e.val)) := List.mem_map.2 ⟨x, hx, rfl⟩
    rw [hes] at this
    obtain ⟨s, hp, e⟩ := List.mem_map.1 this
    injection e with e1 e2
    exact ⟨s, hp, by cases x; simp only at e1 e2; subst e1 e2; rfl⟩
  refine ⟨arr, clock, hb, ⟨by rw [hsz]; exact hl, ⟨hm.born, ?_, ?_⟩, fun x h => ?_⟩, by rw [hsz]; exact Nat.le_refl _, ?_⟩
  · rw [List.nodup_iff_pairwise_ne, List.pairwise_map]
    exact hm.uniq
  · have : arr.toList.map (·.key) = (arr.toList.map (fun e => (e.key, e.val))).map Prod.fst := by rw [List.map_map]; rfl
    rw [this, hes, List.map_map]
    have h2 : (Prod.fst ∘ fun s : ByteArray => (Value.string s, u0)) = Value.string := rfl
    rw [h2, List.nodup_iff_pairwise_ne, List.pairwise_map]
    rw [List.nodup_iff_pairwise_ne] at hnd
    exact hnd.imp fun h e => h (by injection e)
  · obtain ⟨s, hp, e⟩ := hx x h
    rw [e]
    exact ⟨_, hrd s hp _⟩
  · unfold DS itS
    congr 2
    have e2 : arr.toList.map (rg Tryd.prog 9 RU) = (arr.toList.map (fun e => (e.key, e.val))).map (fun kv : Value × Value => rg Tryd.prog 9 RU ⟨kv.1, kv.2, 0⟩) := by
      rw [List.map_map]
      rfl
    rw [e2, hes, List.map_map]
    refine (List.map_congr_left fun p hp => ?_).symm
    exact Go.WideElems.rg_of (hrd p hp 0)
theorem keys_DS (l : List ByteArray) : (strKeys (DS l)).Perm (l.map fun s => s.data.toList) := by
  show (((itS l).foldr DataW.insert []).map fun p => strOf p.1).Perm _
  refine ((WideShapes.sorted_perm (itS l)).map _).trans ?_
  unfold itS
  rw [List.map_map]
  exact List.Perm.refl _
theorem size_DS (l : List ByteArray) : Maps.size (DS l) = l.length := by
  show ((itS l).foldr DataW.insert []).length = _
  rw [(WideShapes.sorted_perm (itS l)).length_eq]
  simp [itS]
/-! ### sorted -/
def sortB (l : List ByteArray) : List ByteArray := ((l.map fun s => s.data.toList).mergeSort leB).map fun x => ⟨x.toArray⟩
theorem sortB_len (l : List ByteArray) : (sortB l).length = l.length := by
  unfold sortB
  rw [List.length_map, (List.mergeSort_perm _ _).length_eq, List.length_map]
theorem sortsS (m : Nat) : AnyZ.SortsIn Tryd.prog Tryd.sortedS_ren Fence.wide m :=
  ⟨fun blk off cap ss W hH hblk hsz => callsIn_wide.2 (AnyM.slices_Sort_string Tryd.sortS blk off cap ss W hH hblk hsz),
   fun p cap W => callsIn_wide.2 (AnyM.slices_Sort_string_none Tryd.sortS p cap W)⟩
theorem setEs_ent {X : Mem} {w : World} {β : Nat} {es : List (Value × Value)} (h : BlkIs X w β ⟨false, [.ent es]⟩) : ∃ arr clock, w.heap[β]? = some (.map arr clock) ∧ MapIs es arr clock := by
  cases h with
  | dead h => simp at h
  | ent h1 h2 h3 =>
    simp only [List.cons.injEq, AV.ent.injEq, and_true] at h1
    subst h1
    exact ⟨_, _, h2, h3⟩
  | bld h => simp at h
  | byt h => simp at h
  | cells h1 h2 h3 =>
    obtain ⟨x, _, hx⟩ := reps_take_get h3 (i := 0) (c := .ent es) rfl
    cases hx
theorem sorted13_gives {m : Mm} {b bm : Nat} {l : List ByteArray} (hb : m.hp[b]? = some ⟨false, [.mapp bm]⟩) (hm : m.hp[bm]? = some ⟨false, [.ent (setEs .string u0 l)]⟩) (hnd : l.Nodup) (hs : ∀ s ∈ l, s.size ≤ 1000000) (hl : l.length ≤ 1000000) :
    GivesW Tryd.prog 20 [.fn (.func 34) [] [.ptr b 0]] m (.c (slC stC l.isEmpty (sortB l))) m := by
  refine ⟨enters_of Tryd.func20 (by kernel_rfl) rfl, fun X W0 w vs M hr => ?_⟩
  obtain ⟨x1, hvs, r1⟩ := reps1 hr
  cases r1 with
  | fn h1 h2 h3 h4 =>
  rename_i ys zs
  have hys : ys = #[] := Array.ext' (List.eq_nil_of_length_eq_zero h1.symm)
  subst hys
  obtain ⟨z, hz⟩ := List.length_eq_one_iff.1 h3.symm
  have r2 := h4 0 _ z rfl (by rw [hz]; rfl)
  obtain rfl : zs = #[z] := Array.ext' hz
  cases r2 with
  | ptr hβ =>
  rename_i β
  obtain ⟨β', k1, k2, k3, kB⟩ := M.locs b _ hb
  rw [hβ] at k1
  injection k1 with k1
  subst k1
  obtain ⟨γ, j1, j2, j3, jB⟩ := M.locs bm _ hm
  obtain ⟨t, arr, q1, q2, q3, q4, q5⟩ := kB.plain rfl
  obtain ⟨x2, g1, g2⟩ := reps_take_get q3 (i := 0) (c := .mapp bm) rfl
  cases g2 with
  | mapp g2 =>
  rw [j1] at g2
  injection g2 with g2
  subst g2
  have hcell : w.cell? ⟨β, 0, none⟩ = some (.map (some γ)) := cell_of_heap q1 g1
  obtain ⟨marr, clock, n1, n2⟩ := setEs_ent jB
  have hown := own_set n1 n2 hnd (fun s h => Nat.le_trans (hs s h) (by decide)) (Nat.le_trans hl (by decide))
  have hseq := AnyZ.keys_gives Tryd.keys1S Fence.wide (20 - 1 - 1 - 1) trivial rfl (by decide) β γ l.length (DS l) w k3 hcell hown
  have cS := AnyZ.sorted_in Tryd.sortedS Fence.wide 20 trivial trivial trivial trivial rfl (by decide) (sortsS _) (enters_of Tryd.func33 (by kernel_rfl) rfl) 34 #[.pointer (some ⟨β, 0, none⟩)] trivial (enters_of Tryd.func34 (by kernel_rfl) rfl) _ _ (by rw [size_DS]; exact Nat.le_trans hl (by decide)) (by rw [size_DS]; omega) _ hseq
  change CallsIn _ _ Tryd.prog 20 _ _ _ at cS
  rw [show vs = #[.func (.func 34) #[] #[.pointer (some ⟨β, 0, none⟩)]] from Array.ext' hvs]
  refine (callsIn_wide.1 cS).mono ?_
  rintro e w' ⟨v, ss, rfl, hp, hrow, hnil, hbel⟩
  have hperm := hp.trans (keys_DS l)
  have hlen : ss.length = l.length := by rw [hperm.length_eq, List.length_map]
  have hval : (ss.mergeSort fun x y => decide (x ≤ y)).map encStr = (sortB l).flatMap fun s => [Value.string s] := by
    rw [show (ss.mergeSort fun x y => decide (x ≤ y)) = ss.mergeSort leB from rfl, mergeSort_of_perm hperm]
    unfold sortB
    rw [List.flatMap_map]
    generalize (l.map fun s => s.data.toList).mergeSort leB = L
    induction L with
    | nil => rfl
    | cons a r ih => rw [List.map_cons, List.flatMap_cons, ih]; rfl
  rw [hval] at hrow
  have M1 := M.grow hbel
  have hsl := sortB_len l
  rcases hrow.2 with ⟨rfl, hk⟩ | ⟨g, cp, cur, rfl, hgb, hgg, s1, s2, s3, s4⟩
  · have he := hnil.1 rfl
    have hl0 : l = [] := List.eq_nil_of_length_eq_zero (by rw [← hlen, he]; rfl)
    subst hl0
    refine ⟨_, X, rfl, Mem.Le.refl _ _, ?_, M1⟩
    rw [show sortB [] = [] by simp [sortB]]
    exact .c (.sl (xs := []) rfl (fun i c x h => by cases h) (Nat.le_refl _) ⟨by decide, fun _ => rfl⟩ (fun _ => rfl) (fun j x h => by cases h))
  · have hne : l.isEmpty = false := by
      rw [List.isEmpty_eq_false_iff]
      rintro rfl
      have : ss = [] := List.eq_nil_of_length_eq_zero hlen
      have := hnil.2 this
      cases this
    rw [hne]
    have hgW : W0.heap.size ≤ g := Nat.le_trans M.below.size hgb
    have hC : ∀ o, X.cell g o = none := fun o => by
      cases hx : X.cell g o with
      | none => rfl
      | some x =>
        have := M.cell g o x hx
        have hlt : g < w.heap.size := by
          unfold World.cell? at this
          cases hw : w.heap[g]? with
          | none => simp [hw] at this
          | some ob => exact (Array.getElem?_eq_some_iff.1 hw).1
        omega
    have M2 := M1.claim (xs := (sortB l).flatMap fun s => [Value.string s]) hgW hC (fun i e => by have := (M.locBlock e).1; omega) (fun k T e => by have := (M.tokBlock e).1; omega) (fun o x hx => by
      refine cell_of_heap hgg ?_
      rw [← s4, List.getElem?_take] at hx
      split at hx
      · simpa using hx
      · cases hx)
    refine ⟨_, _, rfl, Mem.le_claim hC hgW, ?_, M2⟩
    have hone : ∀ u ∈ (sortB l).flatMap fun s => [Value.string s], u.oneCell' = true := fun u hu => by
      obtain ⟨s, _, hu⟩ := List.mem_flatMap.1 hu
      rw [List.mem_singleton] at hu
      subst hu
      rfl
    have hrc := fun C => repcs_vals (C := C) (vals_flat (encV := fun s => [Value.string s]) vals_st (sortB l)) hone
    rw [hlen]
    show Rep _ (.c (.sl false (sortB l).length ((sortB l).flatMap stC))) _
    rw [hsl]
    refine .c (.sl (hrc (fun _ _ => none)).1 (hrc _).2 (by omega) ⟨s2, fun e => by cases e⟩ (fun e => by cases e) (fun j x hx => ⟨_, _, rfl, ?_⟩))
    simp only [Mem.claim, Nat.zero_add, if_true]
    exact hx
theorem avNF : avOf Value.nilFunc = some (.c (.v .nilFunc)) := rfl
theorem keys13_gives (A : List Blk) (hw : List Hw) (bm : Nat) : GivesW Tryd.prog 21 [.mapp bm] ⟨A, hw⟩ (.fn (.func 34) [] [.ptr A.length 0]) ⟨A ++ [⟨false, [.mapp bm]⟩], hw⟩ := by
  refine givesW_of' Tryd.func21 rfl (by kernel_rfl) Tryd.ntmps21 rfl rfl fun Q hQ => ?_
  repeat (first | refine tr_seq_k fun _ _ => ?_ | (refine tr_region ?_; simp only [go_sem, reduceCtorEq, Nat.reduceEqDiff, Nat.reduceLT, ↓reduceIte, avNF]) | refine k_of (by assumption) ?_ | (refine tr_ret ?_; try simp only [ex_seq_ret, ex_block_ret]))
  refine (hQ _ _ [.fn (.func 34) [] [.ptr A.length 0]] ?_ rfl rfl).2 <;> simp only [go_sem, reduceCtorEq, Nat.reduceEqDiff, ↓reduceIte, Tryd.f21]
end Go.Proofs.YtinbfakpjnnagaaDoor
namespace Go.Vs.Sm
variable {T : Type}
/-! ### merging -/
theorem merge_split {le : T → T → Bool} : ∀ (L1 R1 L2 R2 : List T), (∀ x ∈ L1, ∀ y ∈ R2, le x y = true) → (∀ y ∈ R1, ∀ x ∈ L2, le x y = false) →
    List.merge (L1 ++ L2) (R1 ++ R2) le = List.merge L1 R1 le ++ List.merge L2 R2 le
  | [], [], L2, R2, _, _ => by rw [List.nil_merge]; rfl
  | [], y :: R1, L2, R2, h1, h2 => by
    have ih := merge_split [] R1 L2 R2 (fun x hx => by cases hx) (fun z hz => h2 z (List.mem_cons_of_mem _ hz))
    rw [List.nil_merge] at ih ⊢
    cases L2 with
    | nil => rw [List.nil_append, List.nil_merge, List.nil_merge]
    | cons x L2 =>
      rw [List.nil_append] at ih ⊢
      rw [List.cons_append, List.cons_merge_cons, if_neg (by rw [h2 y (List.mem_cons_self) x List.mem_cons_self]; decide), ih]
      rfl
  | x :: L1, [], L2, R2, h1, h2 => by
    have ih := merge_split L1 [] L2 R2 (fun z hz => h1 z (List.mem_cons_of_mem _ hz)) (fun y hy => by cases hy)
    rw [List.merge_right] at ih ⊢
    cases R2 with
    | nil => rw [List.nil_append, List.merge_right, List.merge_right]
    | cons y R2 =>
      rw [List.nil_append] at ih ⊢
      rw [List.cons_append, List.cons_merge_cons, if_pos (h1 x List.mem_cons_self y List.mem_cons_self), ih]
      rfl
  | x :: L1, y :: R1, L2, R2, h1, h2 => by
    rw [List.cons_append, List.cons_append, List.cons_merge_cons, List.cons_merge_cons]
    split
    · have ih := merge_split L1 (y :: R1) L2 R2 (fun z hz => h1 z (List.mem_cons_of_mem _ hz)) h2
      rw [List.cons_append] at ih
      rw [ih]
      rfl
    · have ih := merge_split (x :: L1) R1 L2 R2 h1 (fun z hz => h2 z (List.mem_cons_of_mem _ hz))
      rw [List.cons_append] at ih
      rw [ih]
      rfl
theorem merge_one {le : T → T → Bool} {x : T} {v1 v2 : List T} (h1 : ∀ y ∈ v1, le x y = false) (h2 : ∀ y ∈ v2, le x y = true) : List.merge [x] (v1 ++ v2) le = v1 ++ x :: v2 := by
  have a := merge_split (le := le) [] v1 [x] v2 (fun x hx => by cases hx) (fun y hy z hz => by rw [List.mem_singleton.1 hz]; exact h1 y hy)
  have b := merge_split (le := le) [x] [] [] v2 (fun z hz y hy => by rw [List.mem_singleton.1 hz]; exact h2 y hy) (fun y hy => by cases hy)
  rw [List.nil_append, List.nil_merge] at a
  rw [List.append_nil, List.nil_append, List.merge_right, List.nil_merge] at b
  rw [a, b]
  rfl
theorem merge_last {le : T → T → Bool} {y : T} {u1 u2 : List T} (h1 : ∀ x ∈ u1, le x y = true) (h2 : ∀ x ∈ u2, le x y = false) : List.merge (u1 ++ u2) [y] le = u1 ++ y :: u2 := by
  have a := merge_split (le := le) u1 [] u2 [y] (fun x hx z hz => by rw [List.mem_singleton.1 hz]; exact h1 x hx) (fun y hy => by cases hy)
  have b := merge_split (le := le) [] [y] u2 [] (fun x hx => by cases hx) (fun z hz x hx => by rw [List.mem_singleton.1 hz]; exact h2 x hx)
  rw [List.nil_append, List.merge_right] at a
  rw [List.nil_append, List.append_nil, List.nil_merge, List.merge_right] at b
  rw [a, b]
  rfl
theorem merge_assoc {le : T → T → Bool} (ht : ∀ a b c, le a b = true → le b c = true → le a c = true) (hl : ∀ a b, (le a b || le b a) = true) :
    ∀ (n : Nat) (a b c : List T), a.length + b.length + c.length ≤ n → List.merge (List.merge a b le) c le = List.merge a (List.merge b c le) le
  | n, [], b, c, _ => by rw [List.nil_merge, List.nil_merge]
  | n, x :: a, [], c, _ => by rw [List.merge_right, List.nil_merge]
  | n, x :: a, y :: b, [], _ => by rw [List.merge_right, List.merge_right]
  | 0, x :: a, y :: b, z :: c, h => absurd h (by simp)
  | n + 1, x :: a, y :: b, z :: c, h => by
    simp only [List.length_cons] at h
    cases hxy : le x y with
    | true =>
      cases hyz : le y z with
      | true =>
        have hxz := ht _ _ _ hxy hyz
        have ih := merge_assoc ht hl n a (y :: b) (z :: c) (by simp only [List.length_cons]; omega)
        rw [List.cons_merge_cons le x y, if_pos hxy, List.cons_merge_cons le x z, if_pos hxz, ih, List.cons_merge_cons le y z, if_pos hyz, List.cons_merge_cons le x y, if_pos hxy]
      | false =>
        cases hxz : le x z with
        | true =>
          have ih := merge_assoc ht hl n a (y :: b) (z :: c) (by simp only [List.length_cons]; omega)
          rw [List.cons_merge_cons le x y, if_pos hxy, List.cons_merge_cons le x z, if_pos hxz, ih, List.cons_merge_cons le y z, if_neg (by rw [hyz]; decide), List.cons_merge_cons le x z, if_pos hxz]
        | false =>
          have ih := merge_assoc ht hl n (x :: a) (y :: b) c (by simp only [List.length_cons]; omega)
          rw [List.cons_merge_cons le x y, if_pos hxy] at ih ⊢
          rw [List.cons_merge_cons le x z, if_neg (by rw [hxz]; decide), ih, List.cons_merge_cons le y z, if_neg (by rw [hyz]; decide), List.cons_merge_cons le x z, if_neg (by rw [hxz]; decide)]
    | false =>
      have hyx : le y x = true := by have := hl x y; rw [hxy] at this; simpa using this
      cases hyz : le y z with
      | true =>
        have ih := merge_assoc ht hl n (x :: a) b (z :: c) (by simp only [List.length_cons]; omega)
        rw [List.cons_merge_cons le x y, if_neg (by rw [hxy]; decide), List.cons_merge_cons le y z, if_pos hyz, ih, List.cons_merge_cons le y z, if_pos hyz, List.cons_merge_cons le x y, if_neg (by rw [hxy]; decide)]
      | false =>
        have hxz : le x z = false := by
          cases hq : le x z with
          | false => rfl
          | true => rw [ht _ _ _ hyx hq] at hyz; cases hyz
        have ih := merge_assoc ht hl n (x :: a) (y :: b) c (by simp only [List.length_cons]; omega)
        rw [List.cons_merge_cons le x y, if_neg (by rw [hxy]; decide)] at ih ⊢
        rw [List.cons_merge_cons le y z, if_neg (by rw [hyz]; decide), ih, List.cons_merge_cons le y z, if_neg (by rw [hyz]; decide), List.cons_merge_cons le x z, if_neg (by rw [hxz]; decide)]
/-! ### swapping and rotating -/
def swapL (l : List T) (i j : Nat) : List T := match l[i]?, l[j]? with
  | some x, some y => (l.set i y).set j x
  | _, _ => l
theorem swap_at {x : List T} {u : T} {w : List T} {v : T} {y : List T} {i j : Nat} (hi : i = x.length) (hj : j = x.length + 1 + w.length) : swapL (x ++ u :: (w ++ v :: y)) i j = x ++ v :: (w ++ u :: y) := by
  subst hi hj
  unfold swapL
  have e1 : (x ++ u :: (w ++ v :: y))[x.length]? = some u := by simp
  have e2 : (x ++ u :: (w ++ v :: y))[x.length + 1 + w.length]? = some v := by
    rw [List.getElem?_append_right (by omega), show x.length + 1 + w.length - x.length = w.length + 1 by omega, List.getElem?_cons_succ]
    simp
  simp only [e1, e2]
  rw [List.set_append_right _ _ (Nat.le_refl _), Nat.sub_self, List.set_cons_zero, List.set_append_right _ _ (by omega), show x.length + 1 + w.length - x.length = w.length + 1 by omega, List.set_cons_succ, List.set_append_right _ _ (Nat.le_refl _), Nat.sub_self, List.set_cons_zero]
def swapR (l : List T) (a b : Nat) : Nat → List T
  | 0 => l
  | n + 1 => swapL (swapR l a b n) (a + n) (b + n)
theorem swapR_k {x u w v y : List T} {a b n : Nat} (ha : a = x.length) (hu : u.length = n) (hv : v.length = n) (hb : b = a + n + w.length) : ∀ k, k ≤ n →
    swapR (x ++ (u ++ (w ++ (v ++ y)))) a b k = x ++ (v.take k ++ (u.drop k ++ (w ++ (u.take k ++ (v.drop k ++ y)))))
  | 0, _ => by
    show x ++ (u ++ (w ++ (v ++ y))) = _
    simp only [List.take_zero, List.drop_zero, List.nil_append]
  | k + 1, hk => by
    show swapL (swapR _ a b k) (a + k) (b + k) = _
    rw [swapR_k ha hu hv hb k (by omega)]
    have e1 : u.drop k = u[k]'(by omega) :: u.drop (k + 1) := List.drop_eq_getElem_cons (by omega)
    have e2 : v.drop k = v[k]'(by omega) :: v.drop (k + 1) := List.drop_eq_getElem_cons (by omega)
    have h := swap_at (x := x ++ v.take k) (u := u[k]'(by omega)) (w := u.drop (k + 1) ++ (w ++ u.take k)) (v := v[k]'(by omega)) (y := v.drop (k + 1) ++ y) (i := a + k) (j := b + k)
      (by rw [List.length_append, List.length_take]; omega)
      (by simp only [List.length_append, List.length_take, List.length_drop]; omega)
    rw [e1, e2, List.take_succ_eq_append_getElem (l := u) (by omega), List.take_succ_eq_append_getElem (l := v) (by omega)]
    simp only [List.append_assoc, List.cons_append, List.nil_append] at h ⊢
    exact h
theorem swapR_at {x u w v y : List T} {a b n : Nat} (ha : a = x.length) (hu : u.length = n) (hv : v.length = n) (hb : b = a + n + w.length) : swapR (x ++ (u ++ (w ++ (v ++ y)))) a b n = x ++ (v ++ (w ++ (u ++ y))) := by
  rw [swapR_k ha hu hv hb n (Nat.le_refl _), List.take_of_length_le (by omega), List.take_of_length_le (by omega), List.drop_of_length_le (by omega), List.drop_of_length_le (by omega)]
  simp only [List.nil_append]
def rotL (m : Nat) : Nat → List T → Nat → Nat → List T
  | 0, l, _, _ => l
  | f + 1, l, i, j => if i = j then swapR l (m - i) m i else if j < i then rotL m f (swapR l (m - i) m j) (i - j) j else rotL m f (swapR l (m - i) (m + j - i) i) i (j - i)
theorem rot_at {m : Nat} : ∀ (f : Nat) (x u v y : List T), x.length + u.length = m → 0 < u.length → 0 < v.length → u.length + v.length ≤ f + 1 → rotL m f (x ++ (u ++ (v ++ y))) u.length v.length = x ++ (v ++ (u ++ y))
  | 0, x, u, v, y, _, h1, h2, h3 => by omega
  | f + 1, x, u, v, y, hm, h1, h2, h3 => by
    unfold rotL
    split
    · rename_i h
      exact swapR_at (w := []) (by omega) rfl h.symm (by simp; omega)
    · rename_i h
      split
      · rename_i h4
        have hs := swapR_at (x := x) (u := u.take v.length) (w := u.drop v.length) (v := v) (y := y) (a := m - u.length) (b := m) (n := v.length) (by omega) (by rw [List.length_take]; omega) rfl (by rw [List.length_drop]; omega)
        rw [← List.append_assoc (u.take v.length), List.take_append_drop] at hs
        rw [hs]
        have ih := rot_at (m := m) f (x ++ v) (u.drop v.length) (u.take v.length) y (by rw [List.length_append, List.length_drop]; omega) (by rw [List.length_drop]; omega) (by rw [List.length_take]; omega) (by rw [List.length_drop, List.length_take]; omega)
        rw [List.length_drop, List.length_take, Nat.min_eq_left (by omega)] at ih
        rw [← List.append_assoc x v, ih, ← List.append_assoc (u.take v.length), List.take_append_drop, List.append_assoc]
      · rename_i h4
        have hs := swapR_at (x := x) (u := u) (w := v.take (v.length - u.length)) (v := v.drop (v.length - u.length)) (y := y) (a := m - u.length) (b := m + v.length - u.length) (n := u.length) (by omega) rfl (by rw [List.length_drop]; omega) (by rw [List.length_take]; omega)
        rw [← List.append_assoc (v.take (v.length - u.length)), List.take_append_drop] at hs
        rw [hs]
        have ih := rot_at (m := m) f x (v.drop (v.length - u.length)) (v.take (v.length - u.length)) (u ++ y) (by rw [List.length_drop]; omega) (by rw [List.length_drop]; omega) (by rw [List.length_take]; omega) (by rw [List.length_drop, List.length_take]; omega)
        rw [List.length_drop, List.length_take, Nat.min_eq_left (by omega), show v.length - (v.length - u.length) = u.length by omega] at ih
        rw [ih, ← List.append_assoc (v.take (v.length - u.length)), List.take_append_drop]
/-! ### searching -/
def bs (p : Nat → Bool) : Nat → Nat → Nat → Nat
  | 0, i, _ => i
  | f + 1, i, j => if i < j then if p ((i + j) / 2) = true then bs p f ((i + j) / 2 + 1) j else bs p f i ((i + j) / 2) else i
theorem bs_spec {p : Nat → Bool} : ∀ (f i j : Nat), i ≤ j → j - i ≤ f → (∀ c d, i ≤ c → c ≤ d → d < j → p d = true → p c = true) →
    i ≤ bs p f i j ∧ bs p f i j ≤ j ∧ (∀ c, i ≤ c → c < bs p f i j → p c = true) ∧ (∀ c, bs p f i j ≤ c → c < j → p c = false)
  | 0, i, j, h1, h2, _ => by
    have : i = j := by omega
    subst this
    exact ⟨Nat.le_refl _, Nat.le_refl _, fun c h3 h4 => absurd (show c < i from h4) (by omega), fun c h3 h4 => absurd (show i ≤ c from h3) (by omega)⟩
  | f + 1, i, j, h1, h2, ha => by
    unfold bs
    split
    · rename_i hij
      split
      · rename_i hp
        obtain ⟨q1, q2, q3, q4⟩ := bs_spec f ((i + j) / 2 + 1) j (by omega) (by omega) (fun c d h3 h4 h5 => ha c d (by omega) h4 h5)
        refine ⟨by omega, q2, fun c h3 h4 => ?_, q4⟩
        by_cases hc : c ≤ (i + j) / 2
        · exact ha c _ h3 hc (by omega) hp
        · exact q3 c (by omega) h4
      · rename_i hp
        have hp : p ((i + j) / 2) = false := by simpa using hp
        obtain ⟨q1, q2, q3, q4⟩ := bs_spec f i ((i + j) / 2) (by omega) (by omega) (fun c d h3 h4 h5 => ha c d h3 h4 (by omega))
        refine ⟨q1, by omega, q3, fun c h3 h4 => ?_⟩
        by_cases hc : c < (i + j) / 2
        · exact q4 c h3 hc
        · cases hpc : p c with
          | false => rfl
          | true => rw [ha _ c (by omega) (by omega) h4 hpc] at hp; cases hp
    · exact ⟨Nat.le_refl _, h1, fun c h3 h4 => absurd h4 (by omega), fun c h3 h4 => absurd h4 (by omega)⟩
/-! ### one element moved -/
theorem swapL_comm (l : List T) {i j : Nat} (h : i ≠ j) : swapL l i j = swapL l j i := by
  unfold swapL
  cases h1 : l[i]? with
  | none => cases h2 : l[j]? <;> rfl
  | some x =>
    cases h2 : l[j]? with
    | none => rfl
    | some y => exact List.set_comm _ _ h
def upL (l : List T) (k : Nat) : Nat → List T
  | 0 => l
  | n + 1 => swapL (upL l k n) (k + n) (k + n + 1)
theorem upL_k {x v y : List T} {u : T} : ∀ k, k ≤ v.length → upL (x ++ u :: (v ++ y)) x.length k = x ++ (v.take k ++ u :: (v.drop k ++ y))
  | 0, _ => rfl
  | k + 1, hk => by
    show swapL (upL _ _ k) _ _ = _
    rw [upL_k k (by omega)]
    have e : v.drop k = v[k]'(by omega) :: v.drop (k + 1) := List.drop_eq_getElem_cons (by omega)
    have h := swap_at (x := x ++ v.take k) (u := u) (w := []) (v := v[k]'(by omega)) (y := v.drop (k + 1) ++ y) (i := x.length + k) (j := x.length + k + 1) (by rw [List.length_append, List.length_take]; omega) (by rw [List.length_append, List.length_take, List.length_nil]; omega)
    rw [e, List.take_succ_eq_append_getElem (by omega)]
    simp only [List.append_assoc, List.cons_append, List.nil_append] at h ⊢
    exact h
theorem upL_at {x v y : List T} {u : T} : upL (x ++ u :: (v ++ y)) x.length v.length = x ++ (v ++ u :: y) := by
  rw [upL_k v.length (Nat.le_refl _), List.take_of_length_le (Nat.le_refl _), List.drop_of_length_le (Nat.le_refl _), List.nil_append]
def downL (l : List T) (m : Nat) : Nat → List T
  | 0 => l
  | n + 1 => swapL (downL l m n) (m - n - 1) (m - n)
theorem downL_k {x v y : List T} {u : T} {m : Nat} (hm : m = x.length + v.length) : ∀ k, k ≤ v.length → downL (x ++ (v ++ u :: y)) m k = x ++ (v.take (v.length - k) ++ u :: (v.drop (v.length - k) ++ y))
  | 0, _ => by
    rw [Nat.sub_zero, List.take_of_length_le (Nat.le_refl _), List.drop_of_length_le (Nat.le_refl _)]
    rfl
  | k + 1, hk => by
    show swapL (downL _ _ k) _ _ = _
    rw [downL_k hm k (by omega)]
    obtain ⟨j, hj⟩ : ∃ j, j = v.length - (k + 1) := ⟨_, rfl⟩
    rw [show v.length - k = j + 1 by omega, ← hj]
    have e : v.drop j = v[j]'(by omega) :: v.drop (j + 1) := List.drop_eq_getElem_cons (by omega)
    have h := swap_at (x := x ++ v.take j) (u := v[j]'(by omega)) (w := []) (v := u) (y := v.drop (j + 1) ++ y) (i := m - k - 1) (j := m - k) (by rw [List.length_append, List.length_take]; omega) (by rw [List.length_append, List.length_take, List.length_nil]; omega)
    rw [e, List.take_succ_eq_append_getElem (by omega)]
    simp only [List.append_assoc, List.cons_append, List.nil_append] at h ⊢
    exact h
theorem downL_at {x v1 v2 y : List T} {u : T} {m : Nat} (hm : m = x.length + (v1.length + v2.length)) : downL (x ++ ((v1 ++ v2) ++ u :: y)) m v2.length = x ++ (v1 ++ u :: (v2 ++ y)) := by
  rw [downL_k (by rw [List.length_append]; exact hm) v2.length (by rw [List.length_append]; omega), List.length_append, show v1.length + v2.length - v2.length = v1.length by omega, List.take_left, List.drop_left]
/-! ### SymMerge -/
def ltAt (lt : T → T → Bool) (l : List T) (i j : Nat) : Bool := match l[i]?, l[j]? with
  | some x, some y => lt x y
  | _, _ => false
def symL (lt : T → T → Bool) : Nat → List T → Nat → Nat → Nat → List T
  | 0, l, _, _, _ => l
  | f + 1, l, a, m, b =>
    if m - a = 1 then upL l a (bs (fun h => ltAt lt l h a) (b - m + 1) m b - 1 - a)
    else if b - m = 1 then downL l m (m - bs (fun h => !ltAt lt l m h) (m - a + 1) a m)
    else
      let mid := (a + b) / 2
      let n := mid + m
      let start0 := if mid < m then n - b else a
      let r0 := if mid < m then mid else m
      let start := bs (fun c => !ltAt lt l (n - 1 - c) c) (r0 - start0 + 1) start0 r0
      let e := n - start
      let l1 := if start < m ∧ m < e then rotL m (e - start) l (m - start) (e - m) else l
      let l2 := if a < start ∧ start < mid then symL lt f l1 a start mid else l1
      if mid < e ∧ e < b then symL lt f l2 mid e b else l2
theorem get_u {x u v y : List T} {i : Nat} (h : i < u.length) {k : Nat} (hk : k = x.length + i) : (x ++ (u ++ (v ++ y)))[k]? = some u[i] := by
  subst hk
  rw [List.getElem?_append_right (by omega), Nat.add_sub_cancel_left, List.getElem?_append_left h, List.getElem?_eq_getElem h]
theorem get_v {x u v y : List T} {i : Nat} (h : i < v.length) {k : Nat} (hk : k = x.length + u.length + i) : (x ++ (u ++ (v ++ y)))[k]? = some v[i] := by
  subst hk
  rw [List.getElem?_append_right (by omega), List.getElem?_append_right (by omega), show x.length + u.length + i - x.length - u.length = i by omega, List.getElem?_append_left h, List.getElem?_eq_getElem h]
theorem sorted_get {le : T → T → Bool} (hl : ∀ a b, (le a b || le b a) = true) {u : List T} (hs : u.Pairwise (fun a b => le a b = true)) {i j : Nat} (hij : i ≤ j) (hj : j < u.length) : le u[i] u[j] = true := by
  rcases Nat.lt_or_eq_of_le hij with h | h
  · exact List.pairwise_iff_getElem.1 hs i j (by omega) hj h
  · subst h
    have := hl u[i] u[i]
    simpa using this
theorem mem_take_get {u : List T} {k : Nat} {x : T} (h : x ∈ u.take k) : ∃ (i : Nat) (hi : i < u.length), i < k ∧ u[i] = x := by
  obtain ⟨i, hi, rfl⟩ := List.mem_iff_getElem.1 h
  rw [List.length_take] at hi
  exact ⟨i, by omega, by omega, by rw [List.getElem_take]⟩
theorem mem_drop_get {u : List T} {k : Nat} {x : T} (h : x ∈ u.drop k) : ∃ (i : Nat) (hi : i < u.length), k ≤ i ∧ u[i] = x := by
  obtain ⟨i, hi, rfl⟩ := List.mem_iff_getElem.1 h
  rw [List.length_drop] at hi
  exact ⟨k + i, by omega, by omega, by rw [List.getElem_drop]⟩
theorem symL_at {lt : T → T → Bool} (ht : ∀ a b c : T, (!lt b a) = true → (!lt c b) = true → (!lt c a) = true) (hl : ∀ a b : T, (!lt b a || !lt a b) = true) :
    ∀ (f : Nat) (x u v y : List T), 0 < u.length → 0 < v.length → u.length + v.length ≤ f → u.Pairwise (fun a b => (!lt b a) = true) → v.Pairwise (fun a b => (!lt b a) = true) →
      symL lt f (x ++ (u ++ (v ++ y))) x.length (x.length + u.length) (x.length + u.length + v.length) = x ++ (List.merge u v (fun a b => !lt b a) ++ y)
  | 0, x, u, v, y, h1, h2, h3, _, _ => by omega
  | f + 1, x, u, v, y, h1, h2, h3, hu, hv => by
    have su := fun {i j : Nat} (hij : i ≤ j) (hj : j < u.length) => sorted_get (le := fun a b => !lt b a) hl hu hij hj
    have sv := fun {i j : Nat} (hij : i ≤ j) (hj : j < v.length) => sorted_get (le := fun a b => !lt b a) hl hv hij hj
    unfold symL
    split
    · rename_i h4
      -- one element on the left
      obtain ⟨x0, rfl⟩ : ∃ x0, u = [x0] := List.length_eq_one_iff.1 (by omega)
      have hp : ∀ j (hj : j < v.length), ltAt lt (x ++ ([x0] ++ (v ++ y))) (x.length + 1 + j) x.length = lt v[j] x0 := fun j hj => by
        unfold ltAt
        rw [get_v (x := x) (u := [x0]) (y := y) (k := x.length + 1 + j) hj rfl, get_u (x := x) (u := [x0]) (v := v) (y := y) (i := 0) (k := x.length) (by simp) rfl]
        rfl
      obtain ⟨q1, q2, q3, q4⟩ := bs_spec (p := fun h => ltAt lt (x ++ ([x0] ++ (v ++ y))) h x.length) (x.length + [x0].length + v.length - (x.length + [x0].length) + 1) (x.length + [x0].length) (x.length + [x0].length + v.length) (by omega) (by omega) (fun c d g1 g2 g3 g4 => by
        have e1 := hp (c - (x.length + 1)) (by simp at g1 g3; omega)
        have e2 := hp (d - (x.length + 1)) (by simp at g1 g3; omega)
        rw [show x.length + 1 + (c - (x.length + 1)) = c by simp at g1; omega] at e1
        rw [show x.length + 1 + (d - (x.length + 1)) = d by simp at g1; omega] at e2
        rw [e2] at g4
        rw [e1]
        have g5 := sv (i := c - (x.length + 1)) (j := d - (x.length + 1)) (by omega) (by simp at g1 g3; omega)
        refine Decidable.byContradiction fun g6 => ?_
        have g6 : (!lt v[c - (x.length + 1)] x0) = true := by simpa using g6
        have := ht x0 _ _ g6 g5
        rw [g4] at this
        cases this)
      generalize bs (fun h => ltAt lt (x ++ ([x0] ++ (v ++ y))) h x.length) (x.length + [x0].length + v.length - (x.length + [x0].length) + 1) (x.length + [x0].length) (x.length + [x0].length + v.length) = s at *
      simp only [List.length_cons, List.length_nil, Nat.zero_add] at q1 q2 q3 q4
      obtain ⟨k, hk⟩ : ∃ k, k = s - (x.length + 1) := ⟨_, rfl⟩
      have hm := merge_one (le := fun a b => !lt b a) (x := x0) (v1 := v.take k) (v2 := v.drop k) (fun z hz => by
        obtain ⟨i, hi, g1, rfl⟩ := mem_take_get hz
        have := q3 (x.length + 1 + i) (by omega) (by omega)
        rw [hp i hi] at this
        rw [this]; rfl) (fun z hz => by
        obtain ⟨i, hi, g1, rfl⟩ := mem_drop_get hz
        have := q4 (x.length + 1 + i) (by omega) (by omega)
        rw [hp i hi] at this
        rw [this]; rfl)
      rw [List.take_append_drop] at hm
      rw [hm]
      have hup := upL_at (x := x) (u := x0) (v := v.take k) (y := v.drop k ++ y)
      rw [← List.append_assoc (v.take k), List.take_append_drop, List.length_take, Nat.min_eq_left (by omega)] at hup
      rw [show s - 1 - x.length = k by omega]
      show upL (x ++ x0 :: (v ++ y)) x.length k = _
      rw [hup]
      simp only [List.append_assoc, List.cons_append]
    · rename_i h4
      split
      · rename_i h5
        -- one element on the right
        obtain ⟨y0, rfl⟩ : ∃ y0, v = [y0] := List.length_eq_one_iff.1 (by omega)
        have hp : ∀ i (hi : i < u.length), ltAt lt (x ++ (u ++ ([y0] ++ y))) (x.length + u.length) (x.length + i) = lt y0 u[i] := fun i hi => by
          unfold ltAt
          rw [get_v (x := x) (u := u) (v := [y0]) (y := y) (i := 0) (k := x.length + u.length) (by simp) rfl, get_u (x := x) (u := u) (v := [y0]) (y := y) (i := i) (k := x.length + i) hi rfl]
          rfl
        obtain ⟨q1, q2, q3, q4⟩ := bs_spec (p := fun h => !ltAt lt (x ++ (u ++ ([y0] ++ y))) (x.length + u.length) h) (x.length + u.length - x.length + 1) x.length (x.length + u.length) (by omega) (by omega) (fun c d g1 g2 g3 g4 => by
          have e1 := hp (c - x.length) (by omega)
          have e2 := hp (d - x.length) (by omega)
          rw [show x.length + (c - x.length) = c by omega] at e1
          rw [show x.length + (d - x.length) = d by omega] at e2
          rw [e2] at g4
          rw [e1]
          exact ht _ _ y0 (su (i := c - x.length) (j := d - x.length) (by omega) (by omega)) g4)
        generalize bs (fun h => !ltAt lt (x ++ (u ++ ([y0] ++ y))) (x.length + u.length) h) (x.length + u.length - x.length + 1) x.length (x.length + u.length) = s at *
        obtain ⟨k, hk⟩ : ∃ k, k = s - x.length := ⟨_, rfl⟩
        have hm := merge_last (le := fun a b => !lt b a) (y := y0) (u1 := u.take k) (u2 := u.drop k) (fun z hz => by
          obtain ⟨i, hi, g1, rfl⟩ := mem_take_get hz
          have := q3 (x.length + i) (by omega) (by omega)
          rw [hp i hi] at this
          exact this) (fun z hz => by
          obtain ⟨i, hi, g1, rfl⟩ := mem_drop_get hz
          have := q4 (x.length + i) (by omega) (by omega)
          rw [hp i hi] at this
          exact this)
        rw [List.take_append_drop] at hm
        rw [hm]
        have hdn := downL_at (x := x) (v1 := u.take k) (v2 := u.drop k) (u := y0) (y := y) (m := x.length + u.length) (by rw [List.length_take, List.length_drop]; omega)
        rw [List.take_append_drop, List.length_drop, show u.length - k = x.length + u.length - s by omega] at hdn
        show downL (x ++ (u ++ y0 :: y)) _ _ = _
        rw [hdn]
        simp only [List.append_assoc, List.cons_append]
      · rename_i h5
        have hp : ∀ i j (hi : i < u.length) (hj : j < v.length), ltAt lt (x ++ (u ++ (v ++ y))) (x.length + u.length + j) (x.length + i) = lt v[j] u[i] := fun i j hi hj => by
          unfold ltAt
          rw [get_v (x := x) (u := u) (v := v) (y := y) (i := j) (k := x.length + u.length + j) hj rfl, get_u (x := x) (u := u) (v := v) (y := y) (i := i) (k := x.length + i) hi rfl]
        dsimp only
        obtain ⟨a, ha⟩ : ∃ a, a = x.length := ⟨_, rfl⟩
        obtain ⟨m, hm⟩ : ∃ m, m = x.length + u.length := ⟨_, rfl⟩
        obtain ⟨b, hb⟩ : ∃ b, b = x.length + u.length + v.length := ⟨_, rfl⟩
        rw [← hb, ← hm, ← ha]
        obtain ⟨mid, hmid⟩ : ∃ mid, mid = (a + b) / 2 := ⟨_, rfl⟩
        rw [← hmid]
        obtain ⟨s0, hs0⟩ : ∃ s0, s0 = if mid < m then mid + m - b else a := ⟨_, rfl⟩
        obtain ⟨r0, hr0⟩ : ∃ r0, r0 = if mid < m then mid else m := ⟨_, rfl⟩
        rw [← hs0, ← hr0]
        have hs0' : (mid < m ∧ s0 = mid + m - b ∧ r0 = mid) ∨ (m ≤ mid ∧ s0 = a ∧ r0 = m) := by
          by_cases h : mid < m
          · rw [if_pos h] at hs0 hr0; exact Or.inl ⟨h, hs0, hr0⟩
          · rw [if_neg h] at hs0 hr0; exact Or.inr ⟨by omega, hs0, hr0⟩
        have hpc : ∀ c, s0 ≤ c → c < r0 → ∃ (h1 : c - a < u.length) (h2 : mid + m - 1 - c - m < v.length), ltAt lt (x ++ (u ++ (v ++ y))) (mid + m - 1 - c) c = lt v[mid + m - 1 - c - m] u[c - a] := fun c g1 g2 => by
          have k1 : c - a < u.length := by omega
          have k2 : mid + m - 1 - c - m < v.length := by omega
          refine ⟨k1, k2, ?_⟩
          have := hp (c - a) (mid + m - 1 - c - m) k1 k2
          rw [show x.length + u.length + (mid + m - 1 - c - m) = mid + m - 1 - c by omega, show x.length + (c - a) = c by omega] at this
          exact this
        obtain ⟨q1, q2, q3, q4⟩ := bs_spec (p := fun c => !ltAt lt (x ++ (u ++ (v ++ y))) (mid + m - 1 - c) c) (r0 - s0 + 1) s0 r0 (by omega) (by omega) (fun c d g1 g2 g3 g4 => by
          obtain ⟨k1, k2, e1⟩ := hpc c g1 (by omega)
          obtain ⟨k3, k4, e2⟩ := hpc d (by omega) g3
          rw [e2] at g4
          rw [e1]
          exact ht _ _ _ (su (i := c - a) (j := d - a) (by omega) k3) (ht _ _ _ g4 (sv (i := mid + m - 1 - d - m) (j := mid + m - 1 - c - m) (by omega) k2)))
        generalize bs (fun c => !ltAt lt (x ++ (u ++ (v ++ y))) (mid + m - 1 - c) c) (r0 - s0 + 1) s0 r0 = st at *
        obtain ⟨e, he⟩ : ∃ e, e = mid + m - st := ⟨_, rfl⟩
        rw [← he]
        obtain ⟨i1, hi1⟩ : ∃ i1, i1 = st - a := ⟨_, rfl⟩
        obtain ⟨j1, hj1⟩ : ∃ j1, j1 = e - m := ⟨_, rfl⟩
        have hL1 : (u.take i1).length = i1 := by rw [List.length_take]; omega
        have hR1 : (v.take j1).length = j1 := by rw [List.length_take]; omega
        have hL2 : (u.drop i1).length = m - st := by rw [List.length_drop]; omega
        have hR2 : (v.drop j1).length = b - e := by rw [List.length_drop]; omega
        have c1 : ∀ z ∈ u.take i1, ∀ w ∈ v.drop j1, (!lt w z) = true := fun z hz w hw => by
          obtain ⟨i, hi, g1, rfl⟩ := mem_take_get hz
          obtain ⟨j, hj, g2, rfl⟩ := mem_drop_get hw
          have g3 := q3 (st - 1) (by omega) (by omega)
          obtain ⟨k1, k2, e1⟩ := hpc (st - 1) (by omega) (by omega)
          rw [e1] at g3
          exact ht _ _ _ (su (i := i) (j := st - 1 - a) (by omega) k1) (ht _ _ _ g3 (sv (i := mid + m - 1 - (st - 1) - m) (j := j) (by omega) hj))
        have c2 : ∀ w ∈ v.take j1, ∀ z ∈ u.drop i1, (!lt w z) = false := fun w hw z hz => by
          obtain ⟨i, hi, g1, rfl⟩ := mem_drop_get hz
          obtain ⟨j, hj, g2, rfl⟩ := mem_take_get hw
          have g3 := q4 st (by omega) (by omega)
          obtain ⟨k1, k2, e1⟩ := hpc st (by omega) (by omega)
          rw [e1] at g3
          cases g4 : (!lt v[j] u[i]) with
          | false => rfl
          | true =>
            have := ht _ _ _ (su (i := st - a) (j := i) (by omega) hi) (ht _ _ _ g4 (sv (i := j) (j := mid + m - 1 - st - m) (by omega) k2))
            rw [g3] at this
            cases this
        have hms := merge_split (le := fun a b => !lt b a) (u.take i1) (v.take j1) (u.drop i1) (v.drop j1) c1 c2
        rw [List.take_append_drop, List.take_append_drop] at hms
        have hl1 : (if st < m ∧ m < e then rotL m (e - st) (x ++ (u ++ (v ++ y))) (m - st) (e - m) else x ++ (u ++ (v ++ y))) = x ++ (u.take i1 ++ (v.take j1 ++ (u.drop i1 ++ (v.drop j1 ++ y)))) := by
          have hsp : x ++ (u ++ (v ++ y)) = (x ++ u.take i1) ++ (u.drop i1 ++ (v.take j1 ++ (v.drop j1 ++ y))) := by
            rw [List.append_assoc, ← List.append_assoc (u.take i1), List.take_append_drop, ← List.append_assoc (v.take j1), List.take_append_drop]
          split
          · rename_i g
            have hr := rot_at (m := m) (e - st) (x ++ u.take i1) (u.drop i1) (v.take j1) (v.drop j1 ++ y) (by rw [List.length_append]; omega) (by omega) (by omega) (by omega)
            rw [hL2, hR1, hj1] at hr
            rw [hsp, hj1, hr, List.append_assoc]
          · rename_i g
            rw [hsp, List.append_assoc]
            by_cases g2 : st < m
            · have : v.take j1 = [] := List.eq_nil_of_length_eq_zero (by omega)
              rw [this]
              rfl
            · have : u.drop i1 = [] := List.eq_nil_of_length_eq_zero (by omega)
              rw [this]
              rfl
        rw [hl1]
        have hl2 : (if a < st ∧ st < mid then symL lt f (x ++ (u.take i1 ++ (v.take j1 ++ (u.drop i1 ++ (v.drop j1 ++ y))))) a st mid else x ++ (u.take i1 ++ (v.take j1 ++ (u.drop i1 ++ (v.drop j1 ++ y))))) = (x ++ List.merge (u.take i1) (v.take j1) (fun a b => !lt b a)) ++ (u.drop i1 ++ (v.drop j1 ++ y)) := by
          split
          · rename_i g
            have ih := symL_at ht hl f x (u.take i1) (v.take j1) (u.drop i1 ++ (v.drop j1 ++ y)) (by omega) (by omega) (by omega) (hu.sublist (List.take_sublist _ _)) (hv.sublist (List.take_sublist _ _))
            rw [hL1, hR1, show x.length + i1 = st by omega, show st + j1 = mid by omega, ← ha] at ih
            rw [ih, List.append_assoc]
          · rename_i g
            by_cases g2 : a < st
            · have : v.take j1 = [] := List.eq_nil_of_length_eq_zero (by omega)
              rw [this, List.merge_right, List.append_assoc]
              rfl
            · have : u.take i1 = [] := List.eq_nil_of_length_eq_zero (by omega)
              rw [this, List.nil_merge, List.append_assoc]
              rfl
        rw [hl2]
        have hX : (x ++ List.merge (u.take i1) (v.take j1) (fun a b => !lt b a)).length = mid := by
          rw [List.length_append, List.length_merge]
          omega
        rw [hms]
        split
        · rename_i g
          have ih := symL_at ht hl f (x ++ List.merge (u.take i1) (v.take j1) (fun a b => !lt b a)) (u.drop i1) (v.drop j1) y (by omega) (by omega) (by omega) (hu.sublist (List.drop_sublist _ _)) (hv.sublist (List.drop_sublist _ _))
          rw [hX, hL2, hR2, show mid + (m - st) = e by omega, show e + (b - e) = b by omega] at ih
          rw [ih]
          simp only [List.append_assoc]
        · rename_i g
          by_cases g2 : mid < e
          · have : v.drop j1 = [] := List.eq_nil_of_length_eq_zero (by omega)
            rw [this, List.merge_right]
            simp only [List.append_assoc, List.nil_append]
          · have : u.drop i1 = [] := List.eq_nil_of_length_eq_zero (by omega)
            rw [this, List.nil_merge]
            simp only [List.append_assoc, List.nil_append]
end Go.Vs.Sm
namespace Go.Vs.Sm
variable {T : Type}
def srt (lt : T → T → Bool) (l : List T) : List T := l.foldl (fun acc z => List.merge acc [z] (fun a b => !lt b a)) []
theorem srt_snoc (lt : T → T → Bool) (l : List T) (z : T) : srt lt (l ++ [z]) = List.merge (srt lt l) [z] (fun a b => !lt b a) := by
  unfold srt
  rw [List.foldl_append]
  rfl
theorem srt_len (lt : T → T → Bool) : ∀ (k : Nat) (l : List T), l.length = k → (srt lt l).length = l.length
  | 0, l, h => by rw [List.eq_nil_of_length_eq_zero h]; rfl
  | k + 1, l, h => by
    have hne : l ≠ [] := fun e => by rw [e] at h; cases h
    rw [← List.dropLast_concat_getLast hne, srt_snoc, List.length_merge, srt_len lt k l.dropLast (by rw [List.length_dropLast]; omega), List.length_append]
structure Tot (lt : T → T → Bool) : Prop where
  t : ∀ a b c : T, (!lt b a) = true → (!lt c b) = true → (!lt c a) = true
  l : ∀ a b : T, (!lt b a || !lt a b) = true
variable {lt : T → T → Bool}
theorem srt_sorted (O : Tot lt) : ∀ (k : Nat) (l : List T), l.length = k → (srt lt l).Pairwise (fun a b => (!lt b a) = true)
  | 0, l, h => by rw [List.eq_nil_of_length_eq_zero h]; exact List.Pairwise.nil
  | k + 1, l, h => by
    have hne : l ≠ [] := fun e => by rw [e] at h; cases h
    rw [← List.dropLast_concat_getLast hne, srt_snoc]
    exact List.pairwise_merge O.t O.l _ _ (srt_sorted O k l.dropLast (by rw [List.length_dropLast]; omega)) (List.pairwise_singleton _ _)
theorem srt_append (O : Tot lt) (a : List T) : ∀ (k : Nat) (b : List T), b.length = k → srt lt (a ++ b) = List.merge (srt lt a) (srt lt b) (fun a b => !lt b a)
  | 0, b, h => by rw [List.eq_nil_of_length_eq_zero h, List.append_nil]; exact (List.merge_right _).symm
  | k + 1, b, h => by
    have hne : b ≠ [] := fun e => by rw [e] at h; cases h
    rw [← List.dropLast_concat_getLast hne, ← List.append_assoc, srt_snoc, srt_append O a k b.dropLast (by rw [List.length_dropLast]; omega), srt_snoc]
    exact merge_assoc O.t O.l _ _ _ _ (Nat.le_refl _)
/-! ### insertion -/
def insL (lt : T → T → Bool) (a : Nat) : Nat → List T → Nat → List T
  | 0, l, _ => l
  | f + 1, l, j => if a < j ∧ ltAt lt l j (j - 1) = true then insL lt a f (swapL l (j - 1) j) (j - 1) else l
theorem insL_at (O : Tot lt) {x : List T} : ∀ (f : Nat) (u1 u2 y : List T) (y0 : T), u1.length ≤ f → u1.Pairwise (fun a b => (!lt b a) = true) → (∀ z ∈ u2, lt y0 z = true) →
    insL lt x.length f (x ++ (u1 ++ y0 :: (u2 ++ y))) (x.length + u1.length) = x ++ (List.merge (u1 ++ u2) [y0] (fun a b => !lt b a) ++ y)
  | 0, u1, u2, y, y0, h1, h2, h3 => by
    rw [List.eq_nil_of_length_eq_zero (Nat.le_zero.1 h1), merge_last (u1 := []) (fun x hx => by cases hx) (fun z hz => by rw [h3 z hz]; rfl)]
    simp only [List.nil_append, List.cons_append]
    rfl
  | f + 1, u1, u2, y, y0, h1, h2, h3 => by
    unfold insL
    by_cases h0 : u1 = []
    · subst h0
      rw [if_neg (fun h => absurd h.1 (by simp)), merge_last (u1 := []) (fun x hx => by cases hx) (fun z hz => by rw [h3 z hz]; rfl)]
      simp only [List.nil_append, List.cons_append]
    · obtain ⟨v, w, rfl⟩ : ∃ v w, u1 = v ++ [w] := ⟨_, _, (List.dropLast_concat_getLast h0).symm⟩
      have hlen : x.length + (v ++ [w]).length - 1 = x.length + v.length := by rw [List.length_append]; simp
      have hlt : ltAt lt (x ++ ((v ++ [w]) ++ y0 :: (u2 ++ y))) (x.length + (v ++ [w]).length) (x.length + v.length) = lt y0 w := by
        unfold ltAt
        rw [show y0 :: (u2 ++ y) = [y0] ++ (u2 ++ y) from rfl, get_v (x := x) (u := v ++ [w]) (v := [y0]) (y := u2 ++ y) (i := 0) (k := x.length + (v ++ [w]).length) (by simp) rfl, get_u (x := x) (u := v ++ [w]) (v := [y0]) (y := u2 ++ y) (i := v.length) (k := x.length + v.length) (by simp) rfl]
        simp
      rw [hlen, hlt]
      by_cases h4 : lt y0 w = true
      · rw [if_pos ⟨by rw [List.length_append]; simp, h4⟩]
        have hs := swap_at (x := x ++ v) (u := w) (w := []) (v := y0) (y := u2 ++ y) (i := x.length + v.length) (j := x.length + (v ++ [w]).length) (by rw [List.length_append]) (by simp only [List.length_append, List.length_cons, List.length_nil]; omega)
        have e : x ++ ((v ++ [w]) ++ y0 :: (u2 ++ y)) = (x ++ v) ++ w :: ([] ++ y0 :: (u2 ++ y)) := by simp only [List.append_assoc, List.cons_append, List.nil_append]
        rw [e, hs]
        have ih := insL_at O (x := x) f v (w :: u2) y y0 (by rw [List.length_append] at h1; simp at h1; omega) (List.pairwise_append.1 h2).1 (fun z hz => by
          rcases List.mem_cons.1 hz with rfl | hz
          · exact h4
          · exact h3 z hz)
        simp only [List.append_assoc, List.cons_append, List.nil_append] at ih ⊢
        exact ih
      · rw [if_neg (fun h => h4 h.2)]
        rw [merge_last (u1 := v ++ [w]) (u2 := u2) (fun z hz => ?_) (fun z hz => by rw [h3 z hz]; rfl)]
        · simp only [List.append_assoc, List.cons_append, List.nil_append]
        · have hw : (!lt y0 w) = true := by simpa using h4
          rw [List.mem_append, List.mem_singleton] at hz
          rcases hz with hz | rfl
          · exact O.t z w y0 ((List.pairwise_append.1 h2).2.2 z hz w (List.mem_singleton.2 rfl)) hw
          · exact hw
def isL (lt : T → T → Bool) (l : List T) (a : Nat) : Nat → List T
  | 0 => l
  | n + 1 => insL lt a n (isL lt l a n) (a + n)
theorem isL_at (O : Tot lt) {x u y : List T} : ∀ k, k ≤ u.length → isL lt (x ++ (u ++ y)) x.length k = x ++ (srt lt (u.take k) ++ (u.drop k ++ y))
  | 0, _ => by
    rw [List.take_zero, List.drop_zero]
    rfl
  | k + 1, hk => by
    show insL lt x.length k (isL lt _ x.length k) (x.length + k) = _
    rw [isL_at O k (by omega)]
    have e : u.drop k = u[k]'(by omega) :: u.drop (k + 1) := List.drop_eq_getElem_cons (by omega)
    have hz : (srt lt (u.take k)).length = k := by rw [srt_len lt _ _ rfl, List.length_take]; omega
    have h := insL_at O (x := x) k (srt lt (u.take k)) [] (u.drop (k + 1) ++ y) (u[k]'(by omega)) (by omega) (srt_sorted O _ _ rfl) (fun z hz => by cases hz)
    rw [hz, List.append_nil, List.nil_append] at h
    rw [e, List.take_succ_eq_append_getElem (by omega), srt_snoc]
    exact h
/-! ### blocks, merged -/
def blkS (lt : T → T → Bool) (B : Nat) : Nat → List T → List T
  | 0, l => srt lt l
  | f + 1, l => if B ≤ l.length then srt lt (l.take B) ++ blkS lt B f (l.drop B) else srt lt l
def ph1 (lt : T → T → Bool) (B : Nat) : Nat → List T → Nat → List T
  | 0, l, _ => l
  | f + 1, l, a => if a + B ≤ l.length then ph1 lt B f (isL lt l a B) (a + B) else isL lt l a (l.length - a)
theorem ph1_at (O : Tot lt) {B : Nat} (hB : 0 < B) : ∀ (f : Nat) (x o : List T), o.length < f → ph1 lt B f (x ++ o) x.length = x ++ blkS lt B f o
  | 0, x, o, h => absurd h (Nat.not_lt_zero _)
  | f + 1, x, o, h => by
    unfold ph1 blkS
    by_cases hb : B ≤ o.length
    · rw [if_pos (by rw [List.length_append]; omega), if_pos hb]
      have h1 := isL_at O (x := x) (u := o) (y := []) B hb
      rw [List.append_nil, List.append_nil] at h1
      have hz : (x ++ srt lt (o.take B)).length = x.length + B := by rw [List.length_append, srt_len lt _ _ rfl, List.length_take]; omega
      have ih := ph1_at O hB f (x ++ srt lt (o.take B)) (o.drop B) (by rw [List.length_drop]; omega)
      rw [hz, List.append_assoc, List.append_assoc] at ih
      rw [h1, ih]
    · rw [if_neg (by rw [List.length_append]; omega), if_neg hb]
      have h1 := isL_at O (x := x) (u := o) (y := []) o.length (Nat.le_refl _)
      rw [List.append_nil, List.take_of_length_le (Nat.le_refl _), List.drop_of_length_le (Nat.le_refl _), List.append_nil, List.append_nil] at h1
      rw [List.length_append, Nat.add_sub_cancel_left, h1]
def ps (lt : T → T → Bool) (F B : Nat) : Nat → List T → Nat → List T
  | 0, l, _ => l
  | f + 1, l, a => if a + 2 * B ≤ l.length then ps lt F B f (symL lt F l a (a + B) (a + 2 * B)) (a + 2 * B) else if a + B < l.length then symL lt F l a (a + B) l.length else l
theorem blkS_len (lt : T → T → Bool) (B : Nat) : ∀ (f : Nat) (o : List T), (blkS lt B f o).length = o.length
  | 0, o => srt_len lt _ _ rfl
  | f + 1, o => by
    unfold blkS
    split
    · rw [List.length_append, srt_len lt _ _ rfl, blkS_len lt B f, ← List.length_append, List.take_append_drop]
    · exact srt_len lt _ _ rfl
theorem blkS_fuel (lt : T → T → Bool) {B : Nat} (hB : 0 < B) : ∀ (f g : Nat) (o : List T), o.length < f → o.length < g → blkS lt B f o = blkS lt B g o
  | 0, _, o, h, _ => absurd h (Nat.not_lt_zero _)
  | _, 0, o, _, h => absurd h (Nat.not_lt_zero _)
  | f + 1, g + 1, o, h1, h2 => by
    unfold blkS
    split
    · rw [blkS_fuel lt hB f g _ (by rw [List.length_drop]; omega) (by rw [List.length_drop]; omega)]
    · rfl
theorem ps_at (O : Tot lt) {F B : Nat} (hB : 0 < B) : ∀ (f g : Nat) (x o : List T), o.length < f → o.length < g → o.length ≤ F → ps lt F B f (x ++ blkS lt B g o) x.length = x ++ blkS lt (2 * B) g o
  | 0, _, x, o, h, _, _ => absurd h (Nat.not_lt_zero _)
  | _, 0, x, o, _, h, _ => absurd h (Nat.not_lt_zero _)
  | f + 1, g + 1, x, o, h1, h2, hF => by
    have hlen : (x ++ blkS lt B (g + 1) o).length = x.length + o.length := by rw [List.length_append, blkS_len]
    unfold ps
    rw [hlen]
    by_cases h3 : 2 * B ≤ o.length
    · rw [if_pos (by omega)]
      have e : blkS lt B (g + 1) o = srt lt (o.take B) ++ (srt lt ((o.drop B).take B) ++ blkS lt B (g + 1) (o.drop (2 * B))) := by
        show (if B ≤ o.length then _ else _) = _
        rw [if_pos (by omega), blkS_fuel lt hB g (g + 2) _ (by rw [List.length_drop]; omega) (by rw [List.length_drop]; omega)]
        show _ ++ (if B ≤ (o.drop B).length then _ else _) = _
        rw [if_pos (by rw [List.length_drop]; omega), List.drop_drop, show B + B = 2 * B by omega]
      have z1 : (srt lt (o.take B)).length = B := by rw [srt_len lt _ _ rfl, List.length_take]; omega
      have z2 : (srt lt ((o.drop B).take B)).length = B := by rw [srt_len lt _ _ rfl, List.length_take, List.length_drop]; omega
      have hs := symL_at O.t O.l F x (srt lt (o.take B)) (srt lt ((o.drop B).take B)) (blkS lt B (g + 1) (o.drop (2 * B))) (by omega) (by omega) (by omega) (srt_sorted O _ _ rfl) (srt_sorted O _ _ rfl)
      rw [z1, z2, show x.length + B + B = x.length + 2 * B by omega, ← srt_append O _ _ _ rfl] at hs
      have e2 : o.take B ++ (o.drop B).take B = o.take (2 * B) := by rw [show 2 * B = B + B by omega, List.take_add]
      rw [e2] at hs
      rw [e, hs]
      have z3 : (x ++ srt lt (o.take (2 * B))).length = x.length + 2 * B := by rw [List.length_append, srt_len lt _ _ rfl, List.length_take]; omega
      have ih := ps_at O (F := F) hB f (g + 1) (x ++ srt lt (o.take (2 * B))) (o.drop (2 * B)) (by rw [List.length_drop]; omega) (by rw [List.length_drop]; omega) (by rw [List.length_drop]; omega)
      rw [z3, List.append_assoc, List.append_assoc] at ih
      rw [ih]
      show _ = x ++ (if 2 * B ≤ o.length then _ else _)
      rw [if_pos h3, blkS_fuel lt (by omega) g (g + 1) (o.drop (2 * B)) (by rw [List.length_drop]; omega) (by rw [List.length_drop]; omega)]
    · rw [if_neg (by omega)]
      have e0 : blkS lt (2 * B) (g + 1) o = srt lt o := by
        show (if 2 * B ≤ o.length then _ else _) = _
        rw [if_neg h3]
      rw [e0]
      by_cases h4 : B < o.length
      · rw [if_pos (by omega)]
        have e : blkS lt B (g + 1) o = srt lt (o.take B) ++ (srt lt (o.drop B) ++ []) := by
          show (if B ≤ o.length then _ else _) = _
          rw [if_pos (by omega), blkS_fuel lt hB g (g + 2) _ (by rw [List.length_drop]; omega) (by rw [List.length_drop]; omega), List.append_nil]
          show _ ++ (if B ≤ (o.drop B).length then _ else _) = _
          rw [if_neg (by rw [List.length_drop]; omega)]
        have z1 : (srt lt (o.take B)).length = B := by rw [srt_len lt _ _ rfl, List.length_take]; omega
        have z2 : (srt lt (o.drop B)).length = o.length - B := by rw [srt_len lt _ _ rfl, List.length_drop]
        have hs := symL_at O.t O.l F x (srt lt (o.take B)) (srt lt (o.drop B)) [] (by omega) (by omega) (by omega) (srt_sorted O _ _ rfl) (srt_sorted O _ _ rfl)
        rw [z1, z2, show x.length + B + (o.length - B) = x.length + o.length by omega, ← srt_append O _ _ _ rfl, List.take_append_drop, List.append_nil] at hs
        rw [e]
        rw [List.append_nil] at hs ⊢
        exact hs
      · rw [if_neg (by omega)]
        congr 1
        show (if B ≤ o.length then _ else _) = _
        by_cases h5 : B ≤ o.length
        · rw [if_pos h5, List.take_of_length_le (by omega), List.drop_of_length_le (by omega)]
          have : blkS lt B g ([] : List T) = [] := List.eq_nil_of_length_eq_zero (by rw [blkS_len]; rfl)
          rw [this, List.append_nil]
        · rw [if_neg h5]
def phs (lt : T → T → Bool) : Nat → List T → Nat → List T
  | 0, l, _ => l
  | f + 1, l, B => if B < l.length then phs lt f (ps lt l.length B (l.length + 1) l 0) (2 * B) else l
theorem phs_at (O : Tot lt) : ∀ (f B : Nat) (o : List T), 0 < B → o.length ≤ B + f → phs lt f (blkS lt B (o.length + 1) o) B = srt lt o
  | f, B, o, hB, h => by
    have hend : o.length ≤ B → blkS lt B (o.length + 1) o = srt lt o := fun hle => by
      show (if B ≤ o.length then _ else _) = _
      by_cases h5 : B ≤ o.length
      · rw [if_pos h5, List.take_of_length_le (by omega), List.drop_of_length_le (by omega)]
        have : blkS lt B o.length ([] : List T) = [] := List.eq_nil_of_length_eq_zero (by rw [blkS_len]; rfl)
        rw [this, List.append_nil]
      · rw [if_neg h5]
    match f with
    | 0 => exact hend (by omega)
    | f + 1 =>
      unfold phs
      rw [blkS_len]
      split
      · rename_i hlt
        have hp := ps_at O (F := o.length) hB (o.length + 1) (o.length + 1) [] o (by omega) (by omega) (Nat.le_refl _)
        rw [List.nil_append, List.nil_append] at hp
        show phs lt f (ps lt o.length B (o.length + 1) (blkS lt B (o.length + 1) o) ([] : List T).length) (2 * B) = _
        rw [hp]
        exact phs_at O f (2 * B) o (by omega) (by omega)
      · exact hend (by omega)
def stableL (lt : T → T → Bool) (l : List T) : List T := phs lt l.length (ph1 lt 20 (l.length + 1) l 0) 20
theorem stable_law (O : Tot lt) (l : List T) : stableL lt l = srt lt l := by
  have h1 := ph1_at O (B := 20) (by omega) (l.length + 1) [] l (by omega)
  rw [List.nil_append, List.nil_append] at h1
  unfold stableL
  show phs lt l.length (ph1 lt 20 (l.length + 1) l ([] : List T).length) 20 = _
  rw [h1]
  exact phs_at O _ _ _ (by omega) (by omega)
end Go.Vs.Sm
namespace Go.Vs.Sm
variable {T : Type}
def eqB (lt : T → T → Bool) (x y : T) : Bool := !lt x y && !lt y x
def dropEq (lt : T → T → Bool) (p : T) : List T → List T
  | [] => []
  | y :: r => if eqB lt y p = true then dropEq lt p r else y :: r
theorem dropEq_le (lt : T → T → Bool) (p : T) : ∀ l : List T, (dropEq lt p l).length ≤ l.length
  | [] => Nat.le_refl _
  | y :: r => by
    unfold dropEq
    split
    · have := dropEq_le lt p r
      simp only [List.length_cons]
      omega
    · exact Nat.le_refl _
def cmpct (lt : T → T → Bool) : Nat → List T → List T
  | 0, _ => []
  | _ + 1, [] => []
  | f + 1, x :: r => x :: cmpct lt f (dropEq lt x r)
def dmF (lt : T → T → Bool) : Nat → List T → List T → List T
  | 0, a, b => a ++ b
  | _ + 1, [], b => b
  | _ + 1, a, [] => a
  | f + 1, x :: a, y :: b => if lt x y = true then x :: dmF lt f a (y :: b) else if lt y x = true then y :: dmF lt f (x :: a) b else dmF lt f (x :: a) b
theorem cmpct_fuel (lt : T → T → Bool) : ∀ (f g : Nat) (l : List T), l.length ≤ f → l.length ≤ g → cmpct lt f l = cmpct lt g l
  | 0, 0, l, _, _ => rfl
  | 0, g + 1, [], _, _ => rfl
  | 0, g + 1, x :: r, h, _ => absurd h (by simp)
  | f + 1, 0, [], _, _ => rfl
  | f + 1, 0, x :: r, _, h => absurd h (by simp)
  | f + 1, g + 1, [], _, _ => rfl
  | f + 1, g + 1, x :: r, h1, h2 => by
    simp only [List.length_cons] at h1 h2
    have := dropEq_le lt x r
    unfold cmpct
    rw [cmpct_fuel lt f g _ (by omega) (by omega)]
variable {lt : T → T → Bool}
abbrev leB (lt : T → T → Bool) (a b : T) : Bool := !lt b a
theorem eqB_of {x y : T} (h1 : lt x y = false) (h2 : lt y x = false) : eqB lt x y = true := by unfold eqB; rw [h1, h2]; rfl
theorem eqB_iff {x y : T} : eqB lt x y = true ↔ lt x y = false ∧ lt y x = false := by
  unfold eqB
  cases lt x y <;> cases lt y x <;> simp
theorem lt_asym (O : Tot lt) {x y : T} (h : lt x y = true) : lt y x = false := by
  have := O.l x y
  cases g : lt y x with
  | false => rfl
  | true => rw [h, g] at this; cases this
theorem dropEq_merge (O : Tot lt) (p : T) : ∀ (n : Nat) (u v : List T), u.length + v.length ≤ n → u.Pairwise (fun a b => (!lt b a) = true) → v.Pairwise (fun a b => (!lt b a) = true) → (∀ x ∈ u, lt x p = false) → (∀ y ∈ v, lt y p = false) →
    dropEq lt p (List.merge u v (fun a b => !lt b a)) = List.merge (dropEq lt p u) (dropEq lt p v) (fun a b => !lt b a)
  | n, [], v, _, _, _, _, _ => by rw [List.nil_merge]; exact (List.nil_merge _).symm
  | n, x :: u, [], _, _, _, _, _ => by rw [List.merge_right]; exact (List.merge_right _).symm
  | 0, x :: u, y :: v, h, _, _, _, _ => absurd h (by simp)
  | n + 1, x :: u, y :: v, h, hu, hv, gu, gv => by
    simp only [List.length_cons] at h
    obtain ⟨u1, u2⟩ := List.pairwise_cons.1 hu
    obtain ⟨v1, v2⟩ := List.pairwise_cons.1 hv
    have ihx := dropEq_merge O p n u (y :: v) (by simp only [List.length_cons]; omega) u2 hv (fun z hz => gu z (List.mem_cons_of_mem _ hz)) gv
    have ihy := dropEq_merge O p n (x :: u) v (by simp only [List.length_cons]; omega) hu v2 gu (fun z hz => gv z (List.mem_cons_of_mem _ hz))
    have g1 := gu x List.mem_cons_self
    have g2 := gv y List.mem_cons_self
    rw [List.cons_merge_cons]
    by_cases hxy : (!lt y x) = true
    · rw [if_pos hxy]
      by_cases ex : eqB lt x p = true
      · show (if eqB lt x p = true then _ else _) = _
        rw [if_pos ex, ihx]
        show _ = List.merge (if eqB lt x p = true then _ else _) _ _
        rw [if_pos ex]
      · have hpx : lt p x = true := by
          cases q : lt p x with
          | true => rfl
          | false => exact absurd (eqB_of g1 q) ex
        have hyx : lt y x = false := by simpa using hxy
        have ey : ¬ eqB lt y p = true := fun e => by
          have e2 := (eqB_iff.1 e).2
          have := O.t x y p hxy (by rw [e2]; rfl)
          rw [hpx] at this
          cases this
        show (if eqB lt x p = true then _ else _) = List.merge (if eqB lt x p = true then _ else _) (if eqB lt y p = true then _ else _) _
        rw [if_neg ex, if_neg ex, if_neg ey, List.cons_merge_cons, if_pos hxy]
    · rw [if_neg hxy]
      have hyx : lt y x = true := by simpa using hxy
      have ex : ¬ eqB lt x p = true := fun e => by
        have e2 := (eqB_iff.1 e).2
        have := O.t x p y (by rw [e2]; rfl) (by rw [g2]; rfl)
        rw [hyx] at this
        cases this
      by_cases ey : eqB lt y p = true
      · show (if eqB lt y p = true then _ else _) = _
        rw [if_pos ey, ihy]
        show _ = List.merge _ (if eqB lt y p = true then _ else _) _
        rw [if_pos ey]
      · show (if eqB lt y p = true then _ else _) = List.merge (if eqB lt x p = true then _ else _) (if eqB lt y p = true then _ else _) _
        rw [if_neg ey, if_neg ex, if_neg ey, List.cons_merge_cons, if_neg hxy]
theorem dropEq_sub (p : T) : ∀ l : List T, List.Sublist (dropEq lt p l) l
  | [] => List.Sublist.slnil
  | y :: r => by
    unfold dropEq
    split
    · exact (dropEq_sub p r).cons y
    · exact List.Sublist.refl _
theorem dropEq_gt (O : Tot lt) (p : T) : ∀ l : List T, l.Pairwise (fun a b => (!lt b a) = true) → (∀ x ∈ l, lt x p = false) → ∀ z ∈ dropEq lt p l, lt p z = true
  | [], _, _, z, hz => by cases hz
  | y :: r, hs, hg, z, hz => by
    obtain ⟨h1, h2⟩ := List.pairwise_cons.1 hs
    unfold dropEq at hz
    split at hz
    · exact dropEq_gt O p r h2 (fun x hx => hg x (List.mem_cons_of_mem _ hx)) z hz
    · rename_i he
      have hpy : lt p y = true := by
        cases q : lt p y with
        | true => rfl
        | false => exact absurd (eqB_of (hg y List.mem_cons_self) q) he
      rcases List.mem_cons.1 hz with rfl | hz
      · exact hpy
      · cases q : lt p z with
        | true => rfl
        | false =>
          have := O.t y z p (h1 z hz) (by rw [q]; rfl)
          rw [hpy] at this
          cases this
theorem dropEq_gt0 {p : T} : ∀ {l : List T}, (∀ z ∈ l, lt p z = true) → dropEq lt p l = l
  | [], _ => rfl
  | y :: r, h => by
    unfold dropEq
    rw [if_neg (fun e => by have := (eqB_iff.1 e).2; rw [h y List.mem_cons_self] at this; cases this)]
theorem dropEq_congr (O : Tot lt) {p q : T} (h : eqB lt p q = true) : ∀ l : List T, dropEq lt p l = dropEq lt q l
  | [] => rfl
  | y :: r => by
    obtain ⟨a1, a2⟩ := eqB_iff.1 h
    have e : eqB lt y p = eqB lt y q := by
      rw [Bool.eq_iff_iff, eqB_iff, eqB_iff]
      constructor
      · rintro ⟨b1, b2⟩
        have c1 := O.t q p y (by rw [a1]; rfl) (by rw [b1]; rfl)
        have c2 := O.t y p q (by rw [b2]; rfl) (by rw [a2]; rfl)
        exact ⟨by simpa using c1, by simpa using c2⟩
      · rintro ⟨b1, b2⟩
        have c1 := O.t p q y (by rw [a2]; rfl) (by rw [b1]; rfl)
        have c2 := O.t y q p (by rw [b2]; rfl) (by rw [a1]; rfl)
        exact ⟨by simpa using c1, by simpa using c2⟩
    unfold dropEq
    rw [e, dropEq_congr O h r]
def cm (lt : T → T → Bool) (l : List T) : List T := cmpct lt l.length l
theorem cm_cons (x : T) (r : List T) : cm lt (x :: r) = x :: cm lt (dropEq lt x r) := by
  show x :: cmpct lt r.length (dropEq lt x r) = _
  unfold cm
  rw [cmpct_fuel lt _ _ _ (dropEq_le lt x r) (Nat.le_refl _)]
theorem dmF_fuel (lt : T → T → Bool) : ∀ (f g : Nat) (a b : List T), a.length + b.length ≤ f → a.length + b.length ≤ g → dmF lt f a b = dmF lt g a b
  | 0, 0, a, b, _, _ => rfl
  | 0, g + 1, a, b, h, _ => by
    rw [List.eq_nil_of_length_eq_zero (l := a) (by omega), List.eq_nil_of_length_eq_zero (l := b) (by omega)]
    rfl
  | f + 1, 0, a, b, _, h => by
    rw [List.eq_nil_of_length_eq_zero (l := a) (by omega), List.eq_nil_of_length_eq_zero (l := b) (by omega)]
    rfl
  | f + 1, g + 1, [], b, _, _ => rfl
  | f + 1, g + 1, x :: a, [], _, _ => rfl
  | f + 1, g + 1, x :: a, y :: b, h1, h2 => by
    simp only [List.length_cons] at h1 h2
    unfold dmF
    rw [dmF_fuel lt f g a (y :: b) (by simp only [List.length_cons]; omega) (by simp only [List.length_cons]; omega), dmF_fuel lt f g (x :: a) b (by simp only [List.length_cons]; omega) (by simp only [List.length_cons]; omega)]
def dm (lt : T → T → Bool) (a b : List T) : List T := dmF lt (a.length + b.length) a b
theorem dm_nil (b : List T) : dm lt [] b = b := by
  unfold dm
  cases h : ([] : List T).length + b.length <;> rfl
theorem dm_right (a : List T) : dm lt a [] = a := by
  unfold dm
  cases a with
  | nil => rfl
  | cons x a => rfl
theorem dm_cons (x y : T) (a b : List T) : dm lt (x :: a) (y :: b) = if lt x y = true then x :: dm lt a (y :: b) else if lt y x = true then y :: dm lt (x :: a) b else dm lt (x :: a) b := by
  show dmF lt ((a.length + 1) + b.length + 1) (x :: a) (y :: b) = _
  unfold dm
  rw [dmF, dmF_fuel lt (a.length + 1 + b.length) (a.length + (y :: b).length) a (y :: b) (by simp only [List.length_cons]; omega) (Nat.le_refl _), dmF_fuel lt (a.length + 1 + b.length) ((x :: a).length + b.length) (x :: a) b (by simp only [List.length_cons]; omega) (Nat.le_refl _)]
theorem dm_law (O : Tot lt) : ∀ (n : Nat) (u v : List T), u.length + v.length ≤ n → u.Pairwise (fun a b => (!lt b a) = true) → v.Pairwise (fun a b => (!lt b a) = true) →
    dm lt (cm lt u) (cm lt v) = cm lt (List.merge u v (fun a b => !lt b a))
  | n, [], v, _, _, _ => by rw [List.nil_merge]; exact dm_nil _
  | n, x :: u, [], _, _, _ => by rw [List.merge_right]; exact dm_right _
  | 0, x :: u, y :: v, h, _, _ => absurd h (by simp)
  | n + 1, x :: u, y :: v, h, hu, hv => by
    simp only [List.length_cons] at h
    obtain ⟨u1, u2⟩ := List.pairwise_cons.1 hu
    obtain ⟨v1, v2⟩ := List.pairwise_cons.1 hv
    have lu := dropEq_le lt x u
    have lv := dropEq_le lt y v
    have nu : ∀ z ∈ u, lt z x = false := fun z hz => by simpa using u1 z hz
    have nv : ∀ z ∈ v, lt z y = false := fun z hz => by simpa using v1 z hz
    rw [cm_cons x, cm_cons y, dm_cons, List.cons_merge_cons]
    by_cases hxy : lt x y = true
    · have hyx := lt_asym O hxy
      rw [if_pos hxy, if_pos (by rw [hyx]; rfl), cm_cons x]
      have gv : ∀ z ∈ y :: v, lt x z = true := fun z hz => by
        rcases List.mem_cons.1 hz with rfl | hz
        · exact hxy
        · cases q : lt x z with
          | true => rfl
          | false =>
            have := O.t y z x (v1 z hz) (by rw [q]; rfl)
            rw [hxy] at this
            cases this
      rw [dropEq_merge O x _ u (y :: v) (Nat.le_refl _) u2 hv nu (fun z hz => lt_asym O (gv z hz)), dropEq_gt0 gv, ← dm_law O n (dropEq lt x u) (y :: v) (by simp only [List.length_cons]; omega) (u2.sublist (dropEq_sub x u)) hv, cm_cons y]
    · rw [if_neg hxy]
      by_cases hyx : lt y x = true
      · rw [if_pos hyx, if_neg (by rw [hyx]; decide), cm_cons y]
        have gu : ∀ z ∈ x :: u, lt y z = true := fun z hz => by
          rcases List.mem_cons.1 hz with rfl | hz
          · exact hyx
          · cases q : lt y z with
            | true => rfl
            | false =>
              have := O.t x z y (u1 z hz) (by rw [q]; rfl)
              rw [hyx] at this
              cases this
        rw [dropEq_merge O y _ (x :: u) v (Nat.le_refl _) hu v2 (fun z hz => lt_asym O (gu z hz)) nv, dropEq_gt0 gu, ← dm_law O n (x :: u) (dropEq lt y v) (by simp only [List.length_cons]; omega) hu (v2.sublist (dropEq_sub y v)), cm_cons x]
      · have hxy' : lt x y = false := by simpa using hxy
        have hyx' : lt y x = false := by simpa using hyx
        have he : eqB lt y x = true := eqB_of hyx' hxy'
        rw [if_neg hyx, if_pos (by rw [hyx']; rfl), cm_cons x]
        have nvx : ∀ z ∈ y :: v, lt z x = false := fun z hz => by
          rcases List.mem_cons.1 hz with rfl | hz
          · exact hyx'
          · have := O.t x y z (by rw [hyx']; rfl) (v1 z hz)
            simpa using this
        have hd : dropEq lt x (y :: v) = dropEq lt y v := by
          show (if eqB lt y x = true then _ else _) = _
          rw [if_pos he]
          exact (dropEq_congr O he v).symm
        rw [dropEq_merge O x _ u (y :: v) (Nat.le_refl _) u2 hv nu nvx, hd, ← dm_law O n (dropEq lt x u) (dropEq lt y v) (by omega) (u2.sublist (dropEq_sub x u)) (v2.sublist (dropEq_sub y v))]
        have gv := dropEq_gt O y v v2 nv
        cases hw : dropEq lt y v with
        | nil =>
          show dm lt (x :: cm lt (dropEq lt x u)) [] = x :: dm lt (cm lt (dropEq lt x u)) []
          rw [dm_right, dm_right]
        | cons w r =>
          have hyw : lt y w = true := gv w (by rw [hw]; exact List.mem_cons_self)
          have hxw : lt x w = true := by
            cases q : lt x w with
            | true => rfl
            | false =>
              have := O.t w x y (by rw [q]; rfl) (by rw [hyx']; rfl)
              rw [hyw] at this
              cases this
          rw [cm_cons w, dm_cons, if_pos hxw]
def srtF (lt : T → T → Bool) : Nat → List T → List T
  | 0, l => l
  | f + 1, l => if l.length < 2 then l else dm lt (srtF lt f (l.take (l.length / 2))) (srtF lt f (l.drop (l.length / 2)))
theorem srtF_law (O : Tot lt) : ∀ (f : Nat) (l : List T), l.length ≤ f → srtF lt f l = cm lt (srt lt l)
  | 0, l, h => by rw [List.eq_nil_of_length_eq_zero (Nat.le_zero.1 h)]; rfl
  | f + 1, l, h => by
    unfold srtF
    split
    · rename_i h2
      match l, h2 with
      | [], _ => rfl
      | [x], _ =>
        have e : srt lt [x] = [x] := List.nil_merge _
        rw [e]
        rfl
    · rename_i h2
      rw [srtF_law O f _ (by rw [List.length_take]; omega), srtF_law O f _ (by rw [List.length_drop]; omega), dm_law O _ _ _ (Nat.le_refl _) (srt_sorted O _ _ rfl) (srt_sorted O _ _ rfl), ← srt_append O _ _ _ rfl, List.take_append_drop]
end Go.Vs.Sm
namespace Go.Vs.Sm
abbrev bl (a b : List UInt8) : Bool := Op.bytesLess a b
theorem bl_cons (x y : UInt8) (a b : List UInt8) : bl (x :: a) (y :: b) = (decide (x < y) || (x == y && bl a b)) := rfl
theorem cmp_bl : ∀ a b : List UInt8, (Lib.compareBytes a b < 0 ↔ bl a b = true) ∧ (0 < Lib.compareBytes a b ↔ bl b a = true)
  | [], [] => by simp [Lib.compareBytes, bl, Op.bytesLess]
  | [], _ :: _ => by simp [Lib.compareBytes, bl, Op.bytesLess]
  | _ :: _, [] => by simp [Lib.compareBytes, bl, Op.bytesLess]
  | x :: a, y :: b => by
    obtain ⟨h1, h2⟩ := cmp_bl a b
    rw [bl_cons, bl_cons]
    unfold Lib.compareBytes
    by_cases hl : x < y
    · have hn : ¬ y < x := fun h => absurd (UInt8.lt_iff_toNat_lt.1 h) (by have := UInt8.lt_iff_toNat_lt.1 hl; omega)
      have hne : (y == x) = false := by rw [beq_eq_false_iff_ne]; rintro rfl; exact absurd hl (UInt8.lt_irrefl _)
      simp [hl, hn, hne]
    · by_cases hg : y < x
      · have hne : (x == y) = false := by rw [beq_eq_false_iff_ne]; rintro rfl; exact absurd hg (UInt8.lt_irrefl _)
        simp [hl, hg, hne]
      · have he : x = y := UInt8.toNat_inj.1 (by
          have h3 : ¬ x.toNat < y.toNat := fun h => hl (UInt8.lt_iff_toNat_lt.2 h)
          have h4 : ¬ y.toNat < x.toNat := fun h => hg (UInt8.lt_iff_toNat_lt.2 h)
          omega)
        subst he
        simp only [hl, if_false, decide_false, Bool.false_or, beq_self_eq_true, Bool.true_and]
        exact ⟨h1, h2⟩
theorem bl_t : ∀ a b c : List UInt8, bl b a = false → bl c b = false → bl c a = false
  | [], b, c, _, _ => by cases c <;> rfl
  | x :: a, [], c, h, _ => by simp [bl, Op.bytesLess] at h
  | x :: a, y :: b, [], _, h => by simp [bl, Op.bytesLess] at h
  | x :: a, y :: b, z :: c, h1, h2 => by
    have ih := bl_t a b c
    rw [bl_cons, Bool.or_eq_false_iff, decide_eq_false_iff_not, Bool.and_eq_false_iff] at h1 h2 ⊢
    have h3 : ¬ y.toNat < x.toNat := fun h => h1.1 (UInt8.lt_iff_toNat_lt.2 h)
    have h4 : ¬ z.toNat < y.toNat := fun h => h2.1 (UInt8.lt_iff_toNat_lt.2 h)
    refine ⟨fun h => ?_, ?_⟩
    · have := UInt8.lt_iff_toNat_lt.1 h
      omega
    · by_cases he : z = x
      · subst he
        have e : y = z := UInt8.toNat_inj.1 (by omega)
        subst e
        exact Or.inr (ih (h1.2.resolve_left (by simp)) (h2.2.resolve_left (by simp)))
      · exact Or.inl (by rw [beq_eq_false_iff_ne]; exact he)
theorem bl_l (a b : List UInt8) : (!bl b a || !bl a b) = true := by
  cases h : bl b a with
  | false => rfl
  | true =>
    have := (cmp_bl b a).1.2 h
    cases h2 : bl a b with
    | false => rfl
    | true =>
      have h3 := (cmp_bl b a).2.2 h2
      omega
variable {T : Type}
def ltK (f : T → List UInt8) (a b : T) : Bool := bl (f a) (f b)
theorem totK (f : T → List UInt8) : Tot (ltK f) := ⟨fun a b c h1 h2 => by
  unfold ltK at *
  rw [Bool.not_eq_true'] at *
  exact bl_t _ _ _ h1 h2, fun a b => bl_l _ _⟩
end Go.Vs.Sm
namespace Go.Proofs.YtinbfakpjnnagaaDoor
open Go.RowKit Go.Vs Go.Vs.Ab Go.Vs.Sm
set_option maxRecDepth 100000
set_option maxHeartbeats 4000000
def txA (a : Atm) : List UInt8 := (ptext a).data.toList
abbrev ltA : Atm → Atm → Bool := ltK txA
def cmpA (a b : Atm) : Int := Lib.compareBytes (txA a) (txA b)
theorem cmpA_lt (a b : Atm) : decide (cmpA a b < 0) = ltA a b := by
  have h := (cmp_bl (txA a) (txA b)).1
  show decide (Lib.compareBytes (txA a) (txA b) < 0) = bl (txA a) (txA b)
  cases e : bl (txA a) (txA b) with
  | true => exact decide_eq_true (h.2 e)
  | false => exact decide_eq_false fun q => by rw [h.1 q] at e; cases e
theorem scmp_does (a b : ByteArray) : Does Tryd.prog 42 [sA a, sA b] (fun m => (iA (Lib.compareBytes a.data.toList b.data.toList), m)) :=
  does_of_calls (v := .int .i64 (Lib.compareBytes a.data.toList b.data.toList)) (callable_of Tryd.func42 (by kernel_rfl)) rfl fun X w vs hc hr => by
    obtain ⟨v, u, hv, r1, r2⟩ := reps2 hr
    cases r1 with
    | c r1 =>
    cases r1
    cases r2 with
    | c r2 =>
    cases r2
    have hvs : vs = #[.string a, .string b] := Array.ext' hv
    rw [hvs]
    refine (Tryd.strings_Compare a b w).mono ?_
    rintro e w' ⟨he, rfl⟩
    exact ⟨he, Below.refl _ _⟩
theorem cmpA_does (a b : Atm) (ha : AtSz a) (hb : AtSz b) : Does Tryd.prog 28 [atA a, atA b] (fun m => (iA (cmpA a b), m)) := by
  have c1 := text_does a ha
  have c2 := text_does b hb
  have c3 := scmp_does (ptext a) (ptext b)
  refine does_of' Tryd.func28 rfl (by kernel_rfl) rfl Tryd.ntmps28 rfl rfl fun Q hQ => ?_
  repeat (first | refine tr_seq_k fun _ _ => ?_ | (refine tr_region ?_; simp only [go_sem, reduceCtorEq, Nat.reduceEqDiff, Nat.reduceLT, ↓reduceIte]) | (refine tr_draw (id := 1) follows 10000 [1, 3, 4] [0, 2, 1, 3, 4, 5] (by kernel_rfl) ?_; simp only [go_sem, List.getElem?_toArray, reduceCtorEq, Nat.reduceEqDiff, Nat.reduceLT, Nat.reduceLeDiff, Nat.reduceAdd, ↓reduceIte]) | (refine call_of (c1) ?_ ?_; (first | rfl | simp only [go_sem]); simp only [go_sem, Nat.reduceBEq, Bool.true_or, Bool.false_or]) | (refine call_of (c2) ?_ ?_; (first | rfl | simp only [go_sem, reduceCtorEq, Nat.reduceEqDiff, Nat.reduceLT, Nat.reduceLeDiff, Nat.reduceAdd, Nat.reduceMul, Nat.reduceSub, Nat.reduceBEq, ↓reduceIte, shut_col]); simp only [go_sem, Nat.reduceBEq, Bool.true_or, Bool.false_or]) | (refine call_of (c3) ?_ ?_; (first | rfl | simp only [go_sem, reduceCtorEq, Nat.reduceEqDiff, Nat.reduceLT, Nat.reduceLeDiff, Nat.reduceAdd, Nat.reduceMul, Nat.reduceSub, Nat.reduceBEq, ↓reduceIte, shut_col]); simp only [go_sem, Nat.reduceBEq, Bool.true_or, Bool.false_or]) | refine k_of (by assumption) ?_ | (refine tr_ret ?_; try simp only [ex_seq_ret, ex_block_ret]))
  refine (hQ _ _ [iA (cmpA a b)] ?_ (fun m => rfl)).2 <;> simp only [go_sem, reduceCtorEq, Nat.reduceEqDiff, ↓reduceIte, Tryd.f28]
  rfl
/-! ### a block of atoms -/
abbrev cmpF : AV := .fn (.func 28) [] []
theorem ixLA {n k : Nat} (h : k < n) : aIndexL Tryd.prog 33 (.lsl 0 0 n 11) (.c (.v (.int .i64 (k : Int)))) = some (.ptr 0 (k * 11)) := by
  have := idxL (P := Tryd.prog) (size := 11) Tryd.underlying33 sz39 (by decide) (b := 0) (lo := 0) (ik := .i64) h
  rwa [Nat.zero_add] at this
theorem drLA {l : List Atm} {k : Nat} (h : k < l.length) : List.drop (k * 11) (blC atC l) = .c (.v (.string l[k].says)) :: .c (.v (.string l[k].pred)) :: .c (.v (.int .i64 l[k].n)) :: .c (.v (.bool l[k].a0.v)) :: .c (.v (.string l[k].a0.name)) :: .c (.v (.bool l[k].a1.v)) :: .c (.v (.string l[k].a1.name)) :: .c (.v (.bool l[k].a2.v)) :: .c (.v (.string l[k].a2.name)) :: .c (.v (.bool l[k].a3.v)) :: .c (.v (.string l[k].a3.name)) :: blC atC (l.drop (k + 1)) := drop_blC (enc := atC) (size := 11) (fun _ => rfl) h
theorem fitLA {l : List Atm} {k : Nat} (h : k < l.length) : (k * 11 + 11 ≤ (blC atC l).length) = True := eq_true (fit_blC (enc := atC) (size := 11) (fun _ => rfl) h)
theorem setLA {l : List Atm} {k : Nat} (h : k < l.length) (x : Atm) : List.take (k * 11) (blC atC l) ++ ([.c (.v (.string x.says)), .c (.v (.string x.pred)), .c (.v (.int .i64 x.n)), .c (.v (.bool x.a0.v)), .c (.v (.string x.a0.name)), .c (.v (.bool x.a1.v)), .c (.v (.string x.a1.name)), .c (.v (.bool x.a2.v)), .c (.v (.string x.a2.name)), .c (.v (.bool x.a3.v)), .c (.v (.string x.a3.name))] : List AV) ++ List.drop (k * 11 + 11) (blC atC l) = blC atC (l.set k x) := set_blC (enc := atC) (size := 11) (fun _ => rfl) h x
theorem swapL_len {T : Type} (l : List T) (i j : Nat) : (swapL l i j).length = l.length := by
  unfold swapL
  split
  · rw [List.length_set, List.length_set]
  · rfl
theorem swapR_len {T : Type} (l : List T) (a b : Nat) : ∀ n, (swapR l a b n).length = l.length
  | 0 => rfl
  | n + 1 => by rw [show swapR l a b (n + 1) = swapL (swapR l a b n) (a + n) (b + n) from rfl, swapL_len, swapR_len l a b n]
theorem swapL_eq {T : Type} {l : List T} {i j : Nat} (hi : i < l.length) (hj : j < l.length) : swapL l i j = (l.set i l[j]).set j l[i] := by
  unfold swapL
  rw [List.getElem?_eq_getElem hi, List.getElem?_eq_getElem hj]
theorem swapL_mem {T : Type} {l : List T} {i j : Nat} {x : T} (h : x ∈ swapL l i j) : x ∈ l := by
  unfold swapL at h
  split at h
  · rename_i u v hu hv
    rcases List.mem_or_eq_of_mem_set h with h | rfl
    · rcases List.mem_or_eq_of_mem_set h with h | rfl
      · exact h
      · exact List.mem_of_getElem? hv
    · exact List.mem_of_getElem? hu
  · exact h
theorem swapR_mem {T : Type} {l : List T} {a b : Nat} {x : T} : ∀ n, x ∈ swapR l a b n → x ∈ l
  | 0, h => h
  | n + 1, h => swapR_mem n (swapL_mem h)
end Go.Proofs.YtinbfakpjnnagaaDoor
namespace Go.Proofs.YtinbfakpjnnagaaDoor
open Go.RowKit Go.Vs Go.Vs.Ab Go.Vs.Sm
set_option maxRecDepth 100000
set_option maxHeartbeats 4000000
theorem wrap_addN {a b : Nat} (h : a + b ≤ 1000000000) : IntKind.i64.wrap ((a : Int) + (b : Int)) = ((a + b : Nat) : Int) := by rw [wrap_in (by omega)]; omega
theorem wrap_subN {a b : Nat} (h : b ≤ a) (h2 : a ≤ 1000000000) : IntKind.i64.wrap ((a : Int) - (b : Int)) = ((a - b : Nat) : Int) := by rw [wrap_in (by omega)]; omega
theorem wrap_pre {a : Nat} (h : 0 < a) (h2 : a ≤ 1000000000) : IntKind.i64.wrap ((a : Int) - 1) = ((a - 1 : Nat) : Int) := by rw [wrap_in (by omega)]; omega
def otSwap : OT := .one 0 (.one 1 (.one 2 (.one 3 (.one 4 (.one 5 (.one 6 (.one 7 (.one 8 (.one 9 (.one 10 (.one 11 (.one 12 (.one 14 (.one 15 (.one 16 (.one 17 (.one 18 (.br 13 (.br 19 (.one 20 (.br 21 (.one 22 (.br 23 (.fin) (.stop))) (.stop))) (.stop)) (.br 19 (.br 13 (.one 20 (.br 21 (.one 22 (.br 23 (.fin) (.stop))) (.stop))) (.stop)) (.stop))))))))))))))))))))
theorem swap_gives (l : List Atm) (a b n : Nat) (hw : List Hw) (ha : a + n ≤ l.length) (hb : b + n ≤ l.length) (hl : l.length ≤ 1000000) : GivesW Tryd.prog 87 [.lsl 0 0 l.length 11, iA a, iA b, iA n, cmpF] ⟨[⟨false, blC atC l⟩], hw⟩ (.tup []) ⟨[⟨false, blC atC (swapR l a b n)⟩], hw⟩ := by
  refine givesW_of' Tryd.func87 rfl (by kernel_rfl) Tryd.ntmps87 rfl rfl fun Q hQ => ?_
  repeat (first | refine tr_seq_k fun _ _ => ?_ | (refine tr_region ?_; simp only [go_sem, reduceCtorEq, Nat.reduceEqDiff, Nat.reduceLT, Nat.reduceAdd, ↓reduceIte]) | refine k_of (by assumption) ?_ | refine tr_block ?_)
  refine tr_loop_k (σ := Nat) (fun k => [(0, .lsl 0 0 l.length 11), (1, iA a), (2, iA b), (3, iA n), (10, iA k)]) (fun k => ⟨[⟨false, blC atC (swapR l a b k)⟩], hw⟩)
    (fun k => k ≤ n) (fun k => n - k) 0 (Nat.zero_le _) ⟨rfl, rfl, rfl, rfl, rfl, trivial⟩ rfl ?_
  rintro k hk K hK
  by_cases hkn : k < n
  · have q1 : decide ((k : Int) < (n : Int)) = true := decide_eq_true (by omega)
    have ws := wrap_succ (show k ≤ 1000000000 by omega)
    have w1 := wrap_addN (show a + k ≤ 1000000000 by omega)
    have w2 := wrap_addN (show b + k ≤ 1000000000 by omega)
    have hLl := swapR_len l a b k
    have hn : swapR l a b (k + 1) = swapL (swapR l a b k) (a + k) (b + k) := rfl
    generalize swapR l a b k = L at *
    have hi : a + k < L.length := by omega
    have hj : b + k < L.length := by omega
    have hi' : a + k < l.length := by omega
    have hj' : b + k < l.length := by omega
    rw [swapL_eq hi hj] at hn
    have hj2 : b + k < (L.set (a + k) L[b + k]).length := by rw [List.length_set]; exact hj
    have s1 := setLA hi L[b + k]
    have s2 := setLA hj2 L[a + k]
    rw [← hn] at s2
    have d1 := drLA hi
    have d2 := drLA hj
    repeat (first | refine tr_seq_k fun _ _ => ?_ | (refine tr_region ?_; simp only [go_sem, reduceCtorEq, Nat.reduceEqDiff, Nat.reduceLT, ↓reduceIte, q1]) | refine k_of (by assumption) ?_)
    refine tr_cond rfl (fun ht => ?_) (fun hf => ?_)
    · repeat (first | refine tr_seq_k fun _ _ => ?_ | refine k_of (by assumption) ?_ | refine tr_block ?_ | (refine tr_skip ?_; try simp only [ex_seq]))
      refine tr_drawX (id := 3) follows otSwap (by kernel_rfl) [(0, .lsl 0 0 l.length 11), (1, iA a), (2, iA b), (3, iA n), (10, iA k)] ⟨[⟨false, blC atC (swapR l a b (k + 1))⟩], hw⟩ ?_ ?_
      · unfold otSwap
        simp only [go_sem, List.getElem?_toArray, reduceCtorEq, Nat.reduceEqDiff, Nat.reduceLT, Nat.reduceAdd, ↓reduceIte, w1, w2, ixLA hi', ixLA hj', d1, d2, fitLA hi, fitLA hj, fitLA hj2, s1, s2]
        skip
      repeat (first | (refine tr_region ?_; simp only [go_sem, reduceCtorEq, Nat.reduceEqDiff, Nat.reduceLT, ↓reduceIte, ws]) | refine k_of (by assumption) ?_)
      exact hK (k + 1) _ _ hkn ⟨⟨rfl, rfl, rfl, rfl, rfl, trivial⟩, Keep.refl _, rfl, by simp only [lowB, lows_blC]; rfl, Nat.le_refl _, Nat.le_refl _⟩ (by omega)
    · cases hf
  · have q1 : decide ((k : Int) < (n : Int)) = false := decide_eq_false (by omega)
    obtain rfl : k = n := by omega
    repeat (first | refine tr_seq_k fun _ _ => ?_ | (refine tr_region ?_; simp only [go_sem, reduceCtorEq, Nat.reduceEqDiff, Nat.reduceLT, ↓reduceIte, q1]) | refine k_of (by assumption) ?_)
    refine tr_cond rfl (fun ht => ?_) (fun hf => ?_)
    · cases ht
    · repeat ((refine tr_exit ?_; try simp only [ex_seq_exit, ex_block_exit, ↓reduceIte]))
      exact (hQ _ _ [] rfl rfl rfl).1
theorem rotL_len {T : Type} {m : Nat} : ∀ (f : Nat) (l : List T) (i j : Nat), (rotL m f l i j).length = l.length
  | 0, _, _, _ => rfl
  | f + 1, l, i, j => by
    unfold rotL
    split
    · rw [swapR_len]
    · split
      · rw [rotL_len f, swapR_len]
      · rw [rotL_len f, swapR_len]
theorem rotL_mem {T : Type} {m : Nat} {x : T} : ∀ (f : Nat) (l : List T) (i j : Nat), x ∈ rotL m f l i j → x ∈ l
  | 0, _, _, _, h => h
  | f + 1, l, i, j, h => by
    unfold rotL at h
    split at h
    · exact swapR_mem _ h
    · split at h
      · exact swapR_mem _ (rotL_mem f _ _ _ h)
      · exact swapR_mem _ (rotL_mem f _ _ _ h)
theorem rot_gives (l : List Atm) (a m b : Nat) (hw : List Hw) (ha : a < m) (hb : m < b) (hbl : b ≤ l.length) (hl : l.length ≤ 1000000) : GivesW Tryd.prog 74 [.lsl 0 0 l.length 11, iA a, iA m, iA b, cmpF] ⟨[⟨false, blC atC l⟩], hw⟩ (.tup []) ⟨[⟨false, blC atC (rotL m (b - a) l (m - a) (b - m))⟩], hw⟩ := by
  obtain ⟨T, hT⟩ : ∃ T, T = rotL m (b - a) l (m - a) (b - m) := ⟨_, rfl⟩
  rw [← hT]
  have w1 := wrap_subN (show a ≤ m by omega) (by omega)
  have w2 := wrap_subN (show m ≤ b by omega) (by omega)
  refine givesW_of' Tryd.func74 rfl (by kernel_rfl) Tryd.ntmps74 rfl rfl fun Q hQ => ?_
  repeat (first | refine tr_seq_k fun _ _ => ?_ | (refine tr_region ?_; simp only [go_sem, reduceCtorEq, Nat.reduceEqDiff, Nat.reduceLT, Nat.reduceAdd, ↓reduceIte, w1, w2]) | refine k_of (by assumption) ?_ | refine tr_block ?_)
  refine tr_loop_k (σ := Nat × List Atm × Nat × Nat) (fun q => [(0, .lsl 0 0 l.length 11), (2, iA m), (4, cmpF), (10, iA q.2.2.1), (11, iA q.2.2.2)]) (fun q => ⟨[⟨false, blC atC q.2.1⟩], hw⟩)
    (fun q => T = rotL m q.1 q.2.1 q.2.2.1 q.2.2.2 ∧ q.2.1.length = l.length ∧ 0 < q.2.2.1 ∧ 0 < q.2.2.2 ∧ q.2.2.1 + q.2.2.2 ≤ q.1 + 1 ∧ q.2.2.1 ≤ m ∧ m + q.2.2.2 ≤ l.length) (fun q => q.2.2.1 + q.2.2.2) (b - a, l, m - a, b - m) ⟨hT, rfl, by dsimp only; omega, by dsimp only; omega, by dsimp only; omega, by dsimp only; omega, by dsimp only; omega⟩ ⟨rfl, rfl, rfl, rfl, rfl, trivial⟩ rfl ?_
  rintro ⟨f, L, i, j⟩ ⟨hTT, hLl, hi, hj, hf1, him, hjm⟩ K hK
  dsimp only at hTT hLl hi hj hf1 him hjm ⊢
  obtain ⟨f, rfl⟩ : ∃ g, f = g + 1 := ⟨f - 1, by omega⟩
  have hu : rotL m (f + 1) L i j = if i = j then swapR L (m - i) m i else if j < i then rotL m f (swapR L (m - i) m j) (i - j) j else rotL m f (swapR L (m - i) (m + j - i) i) i (j - i) := rfl
  rw [hu] at hTT
  have w3 := wrap_subN (show i ≤ m by omega) (by omega)
  cases q1 : decide ((i : Int) = (j : Int)) with
  | true =>
    have hij : i = j := by have := of_decide_eq_true q1; omega
    subst hij
    rw [if_pos rfl] at hTT
    have cS := swap_gives L (m - i) m i hw (by omega) (by omega) (by omega)
    rw [hLl, ← hTT] at cS
    repeat (first | refine tr_seq_k fun _ _ => ?_ | (refine tr_region ?_; simp only [go_sem, reduceCtorEq, Nat.reduceEqDiff, Nat.reduceLT, ↓reduceIte, bne_self_eq_false]) | refine k_of (by assumption) ?_)
    refine tr_cond rfl (fun ht => ?_) (fun hf => ?_)
    · cases ht
    · repeat (first | (refine tr_region ?_; simp only [go_sem, reduceCtorEq, Nat.reduceEqDiff, Nat.reduceLT, ↓reduceIte, w3]) | (refine call_givesW (cS) ?_; (try dsimp only); (try simp only [go_sem, reduceCtorEq, Nat.reduceEqDiff, Nat.reduceLT, Nat.reduceLeDiff, Nat.reduceAdd, Nat.reduceMul, Nat.reduceSub, Nat.reduceBEq, ↓reduceIte, w3])) | refine k_of (by assumption) ?_ | (refine tr_exit ?_; try simp only [ex_seq_exit, ex_block_exit, ex_seq, ↓reduceIte]))
      exact (hQ _ _ [] rfl rfl rfl).1
  | false =>
    have hij : ¬ i = j := by have := of_decide_eq_false q1; omega
    rw [if_neg hij] at hTT
    cases q2 : decide ((i : Int) > (j : Int)) with
    | true =>
      have hji : j < i := by have := of_decide_eq_true q2; omega
      rw [if_pos hji] at hTT
      have cS := swap_gives L (m - i) m j hw (by omega) (by omega) (by omega)
      have hLr := swapR_len L (m - i) m j
      rw [hLl] at cS
      have w4 := wrap_subN (show j ≤ i by omega) (by omega)
      repeat (first | refine tr_seq_k fun _ _ => ?_ | (refine tr_region ?_; simp only [go_sem, reduceCtorEq, Nat.reduceEqDiff, Nat.reduceLT, ↓reduceIte, q1]) | refine k_of (by assumption) ?_)
      refine tr_cond rfl (fun ht => ?_) (fun hf => ?_)
      · repeat (first | refine tr_seq_k fun _ _ => ?_ | (refine tr_region ?_; simp only [go_sem, reduceCtorEq, Nat.reduceEqDiff, Nat.reduceLT, ↓reduceIte, q2]) | refine k_of (by assumption) ?_ | refine tr_block ?_ | (refine tr_skip ?_; try simp only [ex_seq]))
        refine tr_cond rfl (fun ht => ?_) (fun hf => ?_)
        · repeat (first | refine tr_seq_k fun _ _ => ?_ | (refine tr_region ?_; simp only [go_sem, reduceCtorEq, Nat.reduceEqDiff, Nat.reduceLT, ↓reduceIte, w3, w4]) | (refine call_givesW (cS) ?_; (try dsimp only); (try simp only [go_sem, reduceCtorEq, Nat.reduceEqDiff, Nat.reduceLT, Nat.reduceLeDiff, Nat.reduceAdd, Nat.reduceMul, Nat.reduceSub, Nat.reduceBEq, ↓reduceIte, w3, w4])) | refine k_of (by assumption) ?_)
          exact hK (f, swapR L (m - i) m j, i - j, j) _ _ ⟨hTT, by dsimp only; omega, by dsimp only; omega, by dsimp only; omega, by dsimp only; omega, by dsimp only; omega, by dsimp only; omega⟩ ⟨⟨rfl, rfl, rfl, rfl, rfl, trivial⟩, Keep.refl _, rfl, by simp only [lowB, lows_blC]; rfl, Nat.le_refl _, Nat.le_refl _⟩ (by dsimp only; omega)
        · cases hf
      · cases hf
    | false =>
      have hji : i < j := by have := of_decide_eq_false q2; omega
      rw [if_neg (by omega)] at hTT
      have cS := swap_gives L (m - i) (m + j - i) i hw (by omega) (by omega) (by omega)
      have hLr := swapR_len L (m - i) (m + j - i) i
      rw [hLl] at cS
      have w4 := wrap_subN (show i ≤ j by omega) (by omega)
      have w5 := wrap_addN (show m + j ≤ 1000000000 by omega)
      have w6 := wrap_subN (show i ≤ m + j by omega) (by omega)
      repeat (first | refine tr_seq_k fun _ _ => ?_ | (refine tr_region ?_; simp only [go_sem, reduceCtorEq, Nat.reduceEqDiff, Nat.reduceLT, ↓reduceIte, q1]) | refine k_of (by assumption) ?_)
      refine tr_cond rfl (fun ht => ?_) (fun hf => ?_)
      · repeat (first | refine tr_seq_k fun _ _ => ?_ | (refine tr_region ?_; simp only [go_sem, reduceCtorEq, Nat.reduceEqDiff, Nat.reduceLT, ↓reduceIte, q2]) | refine k_of (by assumption) ?_ | refine tr_block ?_ | (refine tr_skip ?_; try simp only [ex_seq]))
        refine tr_cond rfl (fun ht => ?_) (fun hf => ?_)
        · cases ht
        · repeat (first | refine tr_seq_k fun _ _ => ?_ | (refine tr_region ?_; simp only [go_sem, reduceCtorEq, Nat.reduceEqDiff, Nat.reduceLT, ↓reduceIte, w3, w4, w5, w6]) | (refine call_givesW (cS) ?_; (try dsimp only); (try simp only [go_sem, reduceCtorEq, Nat.reduceEqDiff, Nat.reduceLT, Nat.reduceLeDiff, Nat.reduceAdd, Nat.reduceMul, Nat.reduceSub, Nat.reduceBEq, ↓reduceIte, w3, w4, w5, w6])) | refine k_of (by assumption) ?_)
          exact hK (f, swapR L (m - i) (m + j - i) i, i, j - i) _ _ ⟨hTT, by dsimp only; omega, by dsimp only; omega, by dsimp only; omega, by dsimp only; omega, by dsimp only; omega, by dsimp only; omega⟩ ⟨⟨rfl, rfl, rfl, rfl, rfl, trivial⟩, Keep.refl _, rfl, by simp only [lowB, lows_blC]; rfl, Nat.le_refl _, Nat.le_refl _⟩ (by dsimp only; omega)
      · cases hf
/-! ### insertion -/
theorem ltAt_eq {T : Type} {lt : T → T → Bool} {l : List T} {i j : Nat} (hi : i < l.length) (hj : j < l.length) : ltAt lt l i j = lt l[i] l[j] := by
  unfold ltAt
  rw [List.getElem?_eq_getElem hi, List.getElem?_eq_getElem hj]
theorem insL_len {T : Type} {lt : T → T → Bool} {a : Nat} : ∀ (f : Nat) (l : List T) (j : Nat), (insL lt a f l j).length = l.length
  | 0, _, _ => rfl
  | f + 1, l, j => by
    unfold insL
    split
    · rw [insL_len f, swapL_len]
    · rfl
theorem insL_mem {T : Type} {lt : T → T → Bool} {a : Nat} {x : T} : ∀ (f : Nat) (l : List T) (j : Nat), x ∈ insL lt a f l j → x ∈ l
  | 0, _, _, h => h
  | f + 1, l, j, h => by
    unfold insL at h
    split at h
    · exact swapL_mem (insL_mem f _ _ h)
    · exact h
theorem isL_len {T : Type} {lt : T → T → Bool} (l : List T) (a : Nat) : ∀ n, (isL lt l a n).length = l.length
  | 0 => rfl
  | n + 1 => by
    show (insL lt a n (isL lt l a n) (a + n)).length = _
    rw [insL_len, isL_len l a n]
theorem isL_mem {T : Type} {lt : T → T → Bool} {l : List T} {a : Nat} {x : T} : ∀ n, x ∈ isL lt l a n → x ∈ l
  | 0, h => h
  | n + 1, h => isL_mem n (insL_mem _ _ _ h)
def otIns : OT := .one 0 (.one 1 (.one 2 (.one 3 (.one 4 (.one 5 (.one 6 (.one 7 (.one 8 (.one 10 (.one 11 (.one 12 (.br 9 (.br 13 (.one 14 (.br 15 (.one 16 (.br 17 (.fin) (.stop))) (.stop))) (.stop)) (.br 13 (.br 9 (.one 14 (.br 15 (.one 16 (.br 17 (.fin) (.stop))) (.stop))) (.stop)) (.stop))))))))))))))
theorem ins_gives (l : List Atm) (a b : Nat) (hw : List Hw) (hab : a ≤ b) (hbl : b ≤ l.length) (hl : l.length ≤ 1000000) (hsz : ∀ x ∈ l, AtSz x) : GivesW Tryd.prog 52 [.lsl 0 0 l.length 11, iA a, iA b, cmpF] ⟨[⟨false, blC atC l⟩], hw⟩ (.tup []) ⟨[⟨false, blC atC (isL ltA l a (b - a))⟩], hw⟩ := by
  have w1 := wrap_succ (show a ≤ 1000000000 by omega)
  refine givesW_of' Tryd.func52 rfl (by kernel_rfl) Tryd.ntmps52 rfl rfl fun Q hQ => ?_
  repeat (first | refine tr_seq_k fun _ _ => ?_ | (refine tr_region ?_; simp only [go_sem, reduceCtorEq, Nat.reduceEqDiff, Nat.reduceLT, Nat.reduceAdd, ↓reduceIte, w1]) | refine k_of (by assumption) ?_ | refine tr_block ?_)
  refine tr_loop_k (σ := Nat) (fun k => [(0, .lsl 0 0 l.length 11), (1, iA a), (2, iA b), (3, cmpF), (8, iA ((a + k : Nat) : Int))]) (fun k => ⟨[⟨false, blC atC (isL ltA l a k)⟩], hw⟩)
    (fun k => 1 ≤ k ∧ (k ≤ b - a ∨ (b = a ∧ k = 1))) (fun k => b - a + 1 - k) 1 ⟨Nat.le_refl _, by omega⟩ ⟨rfl, rfl, rfl, rfl, rfl, trivial⟩ rfl ?_
  rintro k ⟨hk1, hk⟩ K hK
  by_cases hkb : a + k < b
  · have q1 : decide (((a + k : Nat) : Int) < (b : Int)) = true := decide_eq_true (by omega)
    have ws : IntKind.i64.wrap (((a + k : Nat) : Int) + 1) = ((a + (k + 1) : Nat) : Int) := wrap_succ (show a + k ≤ 1000000000 by omega)
    have hLl := isL_len (lt := ltA) l a k
    have hLm : ∀ x ∈ isL ltA l a k, AtSz x := fun x hx => hsz x (isL_mem k hx)
    obtain ⟨T, hT⟩ : ∃ T, T = isL ltA l a (k + 1) := ⟨_, rfl⟩
    have hT2 : T = insL ltA a k (isL ltA l a k) (a + k) := hT
    have hKn := hK (k + 1)
    rw [← hT] at hKn
    generalize isL ltA l a k = L0 at *
    repeat (first | refine tr_seq_k fun _ _ => ?_ | (refine tr_region ?_; simp only [go_sem, reduceCtorEq, Nat.reduceEqDiff, Nat.reduceLT, ↓reduceIte, q1]) | refine k_of (by assumption) ?_)
    refine tr_cond rfl (fun ht => ?_) (fun hf => ?_)
    · repeat (first | refine tr_seq_k fun _ _ => ?_ | (refine tr_region ?_; simp only [go_sem, reduceCtorEq, Nat.reduceEqDiff, Nat.reduceLT, ↓reduceIte]) | refine k_of (by assumption) ?_ | refine tr_block ?_ | (refine tr_skip ?_; try simp only [ex_seq]))
      refine tr_loop_k (σ := Nat × List Atm) (fun q => [(0, .lsl 0 0 l.length 11), (1, iA a), (2, iA b), (3, cmpF), (8, iA ((a + k : Nat) : Int)), (9, iA ((a + q.1 : Nat) : Int))]) (fun q => ⟨[⟨false, blC atC q.2⟩], hw⟩)
        (fun q => T = insL ltA a q.1 q.2 (a + q.1) ∧ q.2.length = l.length ∧ q.1 ≤ k ∧ ∀ x ∈ q.2, AtSz x) (fun q => q.1) (k, L0) ⟨hT2, hLl, Nat.le_refl _, hLm⟩ ⟨rfl, rfl, rfl, rfl, rfl, rfl, trivial⟩ rfl ?_
      rintro ⟨f, L⟩ ⟨hTT, hLl2, hfk, hLm2⟩ K2 hK2
      dsimp only at hTT hLl2 hfk hLm2 ⊢
      have done : T = L → ∀ fr' m', Back ⟨[⟨false, blC atC L⟩], hw⟩ [(0, .lsl 0 0 l.length 11), (1, iA a), (2, iA b), (3, cmpF), (8, iA ((a + (k + 1) : Nat) : Int))] ⟨[⟨false, blC atC L⟩], hw⟩ fr' m' → K fr' m' := fun e fr' m' hB => hKn fr' m' ⟨by omega, by omega⟩ (by
        rw [e]
        exact ⟨hB.sub, hB.keep, hB.lowf, by simp only [lowB, lows_blC]; rfl, Nat.le_refl _, Nat.le_refl _⟩) (by omega)
      cases f with
      | zero =>
        have hTL : T = L := hTT
        have q2 : decide (((a + 0 : Nat) : Int) > (a : Int)) = false := decide_eq_false (by omega)
        have q3 : decide ((a : Int) > (a : Int)) = false := decide_eq_false (by omega)
        repeat (first | refine tr_seq_k fun _ _ => ?_ | (refine tr_draw (id := 4) follows 10000 [14] [0, 1, 2, 3, 4, 5, 6, 7, 8, 9, 10, 11, 12, 13, 14, 15, 16] (by kernel_rfl) ?_; simp only [go_sem, List.getElem?_toArray, reduceCtorEq, Nat.reduceEqDiff, Nat.reduceLT, ↓reduceIte, q3]) | refine k_of (by assumption) ?_)
        refine tr_cond rfl (fun ht => ?_) (fun hf => ?_)
        · cases ht
        · repeat (first | (refine tr_region ?_; simp only [go_sem, reduceCtorEq, Nat.reduceEqDiff, Nat.reduceLT, ↓reduceIte, ws]) | refine k_of (by assumption) ?_ | (refine tr_exit ?_; try simp only [ex_seq_exit, ex_block_exit, ex_seq, ex_block, ↓reduceIte]))
          exact done hTL _ _ ⟨⟨rfl, rfl, rfl, rfl, rfl, trivial⟩, Keep.refl _, rfl, by simp only [lowB, lows_blC]; rfl, Nat.le_refl _, Nat.le_refl _⟩
      | succ f =>
        have q2 : decide (((a + (f + 1) : Nat) : Int) > (a : Int)) = true := decide_eq_true (by omega)
        have hj : a + (f + 1) < L.length := by omega
        have hj1 : a + f < L.length := by omega
        have hj' : a + (f + 1) < l.length := by omega
        have hj1' : a + f < l.length := by omega
        have wp : IntKind.i64.wrap (((a + (f + 1) : Nat) : Int) - 1) = ((a + f : Nat) : Int) := by rw [wrap_in (by omega)]; omega
        have cC := cmpA_does L[a + (f + 1)] L[a + f] (hLm2 _ (List.getElem_mem hj)) (hLm2 _ (List.getElem_mem hj1))
        have hlt := cmpA_lt L[a + (f + 1)] L[a + f]
        have hu : insL ltA a (f + 1) L (a + (f + 1)) = if a < a + (f + 1) ∧ ltAt ltA L (a + (f + 1)) (a + f) = true then insL ltA a f (swapL L (a + f) (a + (f + 1))) (a + f) else L := rfl
        rw [hu, ltAt_eq hj hj1] at hTT
        have d1 := drLA hj
        have d2 := drLA hj1
        cases hx : ltA L[a + (f + 1)] L[a + f] with
        | false =>
          rw [hx] at hlt hTT
          rw [if_neg (fun h => by cases h.2)] at hTT
          repeat (first | refine tr_seq_k fun _ _ => ?_ | (refine tr_draw (id := 4) follows 10000 [14] [0, 1, 2, 3, 4, 5, 6, 7, 8, 9, 10, 11, 12, 13, 14, 15, 16] (by kernel_rfl) ?_; simp only [go_sem, List.getElem?_toArray, reduceCtorEq, Nat.reduceEqDiff, Nat.reduceLT, ↓reduceIte, q2, wp, ixLA hj', ixLA hj1', d1, d2, fitLA hj, fitLA hj1]) | (refine call_of (cC) ?_ ?_; (first | rfl | simp only [go_sem, reduceCtorEq, Nat.reduceEqDiff, Nat.reduceLT, Nat.reduceLeDiff, Nat.reduceAdd, Nat.reduceMul, Nat.reduceSub, Nat.reduceBEq, ↓reduceIte, q2, wp, ixLA hj', ixLA hj1', d1, d2, fitLA hj, fitLA hj1, hlt, shut_col]); simp only [go_sem, reduceCtorEq, Nat.reduceEqDiff, Nat.reduceLT, ↓reduceIte, Bool.true_or, hlt]) | refine k_of (by assumption) ?_)
          refine tr_cond rfl (fun ht => ?_) (fun hf => ?_)
          · cases ht
          · repeat (first | (refine tr_region ?_; simp only [go_sem, reduceCtorEq, Nat.reduceEqDiff, Nat.reduceLT, ↓reduceIte, ws]) | refine k_of (by assumption) ?_ | (refine tr_exit ?_; try simp only [ex_seq_exit, ex_block_exit, ex_seq, ex_block, ↓reduceIte]))
            exact done hTT _ _ ⟨⟨rfl, rfl, rfl, rfl, rfl, trivial⟩, Keep.refl _, rfl, by simp only [lowB, lows_blC]; rfl, Nat.le_refl _, Nat.le_refl _⟩
        | true =>
          rw [hx] at hlt hTT
          rw [if_pos ⟨by omega, rfl⟩] at hTT
          have hsm : ∀ x ∈ swapL L (a + f) (a + (f + 1)), AtSz x := fun x hx => hLm2 x (swapL_mem hx)
          have hsl := swapL_len L (a + f) (a + (f + 1))
          have hse : swapL L (a + f) (a + (f + 1)) = (L.set (a + (f + 1)) L[a + f]).set (a + f) L[a + (f + 1)] := by rw [swapL_comm _ (by omega), swapL_eq hj hj1]
          have hj2 : a + f < (L.set (a + (f + 1)) L[a + f]).length := by rw [List.length_set]; exact hj1
          have s1 := setLA hj L[a + f]
          have s2 := setLA hj2 L[a + (f + 1)]
          rw [← hse] at s2
          repeat (first | refine tr_seq_k fun _ _ => ?_ | (refine tr_draw (id := 4) follows 10000 [14] [0, 1, 2, 3, 4, 5, 6, 7, 8, 9, 10, 11, 12, 13, 14, 15, 16] (by kernel_rfl) ?_; simp only [go_sem, List.getElem?_toArray, reduceCtorEq, Nat.reduceEqDiff, Nat.reduceLT, ↓reduceIte, q2, wp, ixLA hj', ixLA hj1', d1, d2, fitLA hj, fitLA hj1]) | (refine call_of (cC) ?_ ?_; (first | rfl | simp only [go_sem, reduceCtorEq, Nat.reduceEqDiff, Nat.reduceLT, Nat.reduceLeDiff, Nat.reduceAdd, Nat.reduceMul, Nat.reduceSub, Nat.reduceBEq, ↓reduceIte, q2, wp, ixLA hj', ixLA hj1', d1, d2, fitLA hj, fitLA hj1, hlt, shut_col]); simp only [go_sem, reduceCtorEq, Nat.reduceEqDiff, Nat.reduceLT, ↓reduceIte, Bool.true_or, hlt]) | refine k_of (by assumption) ?_)
          refine tr_cond rfl (fun ht => ?_) (fun hf => ?_)
          · repeat (first | refine tr_seq_k fun _ _ => ?_ | refine k_of (by assumption) ?_ | refine tr_block ?_ | (refine tr_skip ?_; try simp only [ex_seq]))
            refine tr_drawX (id := 6) follows otIns (by kernel_rfl) [(0, .lsl 0 0 l.length 11), (1, iA a), (2, iA b), (3, cmpF), (8, iA ((a + k : Nat) : Int)), (9, iA ((a + (f + 1) : Nat) : Int))] ⟨[⟨false, blC atC (swapL L (a + f) (a + (f + 1)))⟩], hw⟩ ?_ ?_
            · unfold otIns
              simp only [go_sem, List.getElem?_toArray, reduceCtorEq, Nat.reduceEqDiff, Nat.reduceLT, Nat.reduceAdd, ↓reduceIte, wp, ixLA hj', ixLA hj1', d1, d2, fitLA hj, fitLA hj1, fitLA hj2, s1, s2]
              skip
            repeat (first | (refine tr_region ?_; simp only [go_sem, reduceCtorEq, Nat.reduceEqDiff, Nat.reduceLT, ↓reduceIte, wp]) | refine k_of (by assumption) ?_)
            exact hK2 (f, swapL L (a + f) (a + (f + 1))) _ _ ⟨hTT, by dsimp only; omega, by dsimp only; omega, hsm⟩ ⟨⟨rfl, rfl, rfl, rfl, rfl, rfl, trivial⟩, Keep.refl _, rfl, by simp only [lowB, lows_blC]; rfl, Nat.le_refl _, Nat.le_refl _⟩ (by dsimp only; omega)
          · cases hf
    · cases hf
  · have q1 : decide (((a + k : Nat) : Int) < (b : Int)) = false := decide_eq_false (by omega)
    have hr : isL ltA l a k = isL ltA l a (b - a) := by
      rcases hk with hk | ⟨rfl, rfl⟩
      · rw [show k = b - a by omega]
      · rw [Nat.sub_self]
        rfl
    rw [hr]
    repeat (first | refine tr_seq_k fun _ _ => ?_ | (refine tr_region ?_; simp only [go_sem, reduceCtorEq, Nat.reduceEqDiff, Nat.reduceLT, ↓reduceIte, q1]) | refine k_of (by assumption) ?_)
    refine tr_cond rfl (fun ht => ?_) (fun hf => ?_)
    · cases ht
    · repeat ((refine tr_exit ?_; try simp only [ex_seq_exit, ex_block_exit, ↓reduceIte]))
      exact (hQ _ _ [] rfl rfl rfl).1
end Go.Proofs.YtinbfakpjnnagaaDoor
namespace Go.Proofs.YtinbfakpjnnagaaDoor
open Go.RowKit Go.Vs Go.Vs.Ab Go.Vs.Sm
set_option maxRecDepth 100000
set_option maxHeartbeats 4000000
theorem cvU (n : Nat) (h : n ≤ 1000000000) : pureVal Tryd.prog (convert 3 103 (.int .i64 (n : Int))) = some (.int .u64 (n : Int)) := by
  have hw : IntKind.u64.wrap (n : Int) = (n : Int) := by
    show (n : Int) % 18446744073709551616 = n
    omega
  unfold convert
  simp only [underlying, program, pureVal, bind, Sem.bind, Tryd.underlying3, Tryd.underlying103, pure]
  show some (Value.int .u64 (IntKind.u64.wrap (n : Int))) = _
  rw [hw]
theorem cvI (n : Nat) (h : n ≤ 1000000000) : pureVal Tryd.prog (convert 103 3 (.int .u64 (n : Int))) = some (.int .i64 (n : Int)) := by
  have hw : IntKind.i64.wrap (n : Int) = (n : Int) := wrap_in (by omega)
  unfold convert
  simp only [underlying, program, pureVal, bind, Sem.bind, Tryd.underlying3, Tryd.underlying103, pure]
  show some (Value.int .i64 (IntKind.i64.wrap (n : Int))) = _
  rw [hw]
theorem shU (n : Nat) : pureVal Tryd.prog (binOp .shr 103 (.int .u64 (n : Int)) (.int .u64 1)) = some (.int .u64 ((n / 2 : Nat) : Int)) := by
  show pureVal Tryd.prog (Op.shift .shr .u64 (n : Int) .u64 1) = _
  have e : (n : Int).fdiv (2 ^ 1) = ((n / 2 : Nat) : Int) := by
    rw [Int.fdiv_eq_ediv_of_nonneg _ (by decide)]
    omega
  show some (Value.int .u64 ((n : Int).fdiv (2 ^ 1))) = _
  rw [e]
theorem bs_hit {p : Nat → Bool} {f i j R : Nat} (h : R = bs p (f + 1) i j) (hij : i < j) : R = if p ((i + j) / 2) = true then bs p f ((i + j) / 2 + 1) j else bs p f i ((i + j) / 2) := by
  rw [h, bs, if_pos hij]
theorem bs_end {p : Nat → Bool} {f i j R : Nat} (h : R = bs p (f + 1) i j) (hij : ¬ i < j) : R = i := by
  rw [h, bs, if_neg hij]
theorem shO (n : Nat) : pureVal Tryd.prog (Op.shift .shr .u64 (n : Int) .u64 1) = some (.int .u64 ((n / 2 : Nat) : Int)) := shU n
theorem upL_len {T : Type} (l : List T) (k : Nat) : ∀ n, (upL l k n).length = l.length
  | 0 => rfl
  | n + 1 => by
    show (swapL (upL l k n) _ _).length = _
    rw [swapL_len, upL_len l k n]
theorem downL_len {T : Type} (l : List T) (m : Nat) : ∀ n, (downL l m n).length = l.length
  | 0 => rfl
  | n + 1 => by
    show (swapL (downL l m n) _ _).length = _
    rw [swapL_len, downL_len l m n]
theorem upL_mem {T : Type} {l : List T} {k : Nat} {x : T} : ∀ n, x ∈ upL l k n → x ∈ l
  | 0, h => h
  | n + 1, h => upL_mem n (swapL_mem h)
theorem downL_mem {T : Type} {l : List T} {m : Nat} {x : T} : ∀ n, x ∈ downL l m n → x ∈ l
  | 0, h => h
  | n + 1, h => downL_mem n (swapL_mem h)
def otSymU : OT := .one 0 (.one 1 (.one 2 (.one 3 (.one 4 (.one 5 (.one 6 (.one 7 (.one 8 (.one 10 (.one 11 (.one 12 (.br 9 (.br 13 (.one 14 (.br 15 (.one 16 (.br 17 (.fin) (.stop))) (.stop))) (.stop)) (.br 13 (.br 9 (.one 14 (.br 15 (.one 16 (.br 17 (.fin) (.stop))) (.stop))) (.stop)) (.stop))))))))))))))
def otSymD : OT := .one 0 (.one 1 (.one 2 (.one 3 (.one 4 (.one 5 (.one 6 (.one 7 (.one 8 (.one 10 (.one 11 (.one 12 (.br 9 (.br 13 (.one 14 (.br 15 (.one 16 (.br 17 (.fin) (.stop))) (.stop))) (.stop)) (.br 13 (.br 9 (.one 14 (.br 15 (.one 16 (.br 17 (.fin) (.stop))) (.stop))) (.stop)) (.stop))))))))))))))
theorem symA (l : List Atm) (a m b : Nat) (hw : List Hw) (ham : a < m) (hmb : m < b) (hbl : b ≤ l.length) (hl : l.length ≤ 1000000) (hsz : ∀ x ∈ l, AtSz x) (h1 : m - a = 1) : GivesW Tryd.prog 53 [.lsl 0 0 l.length 11, iA a, iA m, iA b, cmpF] ⟨[⟨false, blC atC l⟩], hw⟩ (.tup []) ⟨[⟨false, blC atC (upL l a (bs (fun h => ltAt ltA l h a) (b - m + 1) m b - 1 - a))⟩], hw⟩ := by
  obtain ⟨R, hR⟩ : ∃ R, R = bs (fun h => ltAt ltA l h a) (b - m + 1) m b := ⟨_, rfl⟩
  rw [← hR]
  have w1 := wrap_subN (show a ≤ m by omega) (by omega)
  rw [h1] at w1
  have e1 : decide (((1 : Nat) : Int) = 1) = true := by decide
  have e2 : (((1 : Nat) : Int) == 1) = true := by decide
  refine givesW_of' Tryd.func53 rfl (by kernel_rfl) Tryd.ntmps53 rfl rfl fun Q hQ => ?_
  repeat (first | refine tr_seq_k fun _ _ => ?_ | (refine tr_region ?_; simp only [go_sem, reduceCtorEq, Nat.reduceEqDiff, Nat.reduceLT, Nat.reduceAdd, ↓reduceIte, w1, e2]) | refine k_of (by assumption) ?_)
  refine tr_cond rfl (fun ht => ?_) (fun hf => ?_)
  · repeat (first | refine tr_seq_k fun _ _ => ?_ | (refine tr_region ?_; simp only [go_sem, reduceCtorEq, Nat.reduceEqDiff, Nat.reduceLT, ↓reduceIte]) | refine k_of (by assumption) ?_ | refine tr_block ?_)
    refine tr_loop_k (σ := Nat × Nat × Nat) (fun q => [(0, .lsl 0 0 l.length 11), (1, iA a), (2, iA m), (3, iA b), (4, cmpF), (10, iA q.2.1), (11, iA q.2.2)]) (fun q => ⟨[⟨false, blC atC l⟩], hw⟩)
      (fun q => R = bs (fun h => ltAt ltA l h a) (q.1 + 1) q.2.1 q.2.2 ∧ m ≤ q.2.1 ∧ q.2.1 ≤ q.2.2 ∧ q.2.2 ≤ b ∧ q.2.2 - q.2.1 ≤ q.1) (fun q => q.2.2 - q.2.1) (b - m, m, b) ⟨hR, Nat.le_refl _, by dsimp only; omega, Nat.le_refl _, Nat.le_refl _⟩ ⟨rfl, rfl, rfl, rfl, rfl, rfl, rfl, trivial⟩ rfl ?_
    rintro ⟨g, i, j⟩ ⟨hRR, hmi, hij, hjb, hg⟩ K hK
    dsimp only at hRR hmi hij hjb hg ⊢
    by_cases hlt : i < j
    · have q1 : decide ((i : Int) < (j : Int)) = true := decide_eq_true (by omega)
      obtain ⟨g, rfl⟩ : ∃ z, g = z + 1 := ⟨g - 1, by omega⟩
      have w2 := wrap_addN (show i + j ≤ 1000000000 by omega)
      have w2b : i + j ≤ 1000000000 := by omega
      have w2c : (i + j) / 2 ≤ 1000000000 := by omega
      have hR2 := bs_hit hRR hlt
      have hh1 : i ≤ (i + j) / 2 := by omega
      have hh2 : (i + j) / 2 < j := by omega
      have sh := shO (i + j)
      have cu := cvU _ w2b
      have ci := cvI _ w2c
      generalize (i + j) / 2 = h at *
      have ws := wrap_succ (show h ≤ 1000000000 by omega)
      have hx : h < l.length := by omega
      have hy : a < l.length := by omega
      have cC := cmpA_does l[h] l[a] (hsz _ (List.getElem_mem hx)) (hsz _ (List.getElem_mem hy))
      have hlt2 := cmpA_lt l[h] l[a]
      have d1 := drLA hx
      have d2 := drLA hy
      rw [ltAt_eq hx hy] at hR2
      cases hz : ltA l[h] l[a] with
      | true =>
        rw [hz] at hlt2 hR2
        rw [if_pos (by decide)] at hR2
        repeat (first | refine tr_seq_k fun _ _ => ?_ | (refine tr_region ?_; simp only [go_sem, reduceCtorEq, Nat.reduceEqDiff, Nat.reduceLT, ↓reduceIte, q1]) | refine k_of (by assumption) ?_)
        refine tr_cond rfl (fun ht => ?_) (fun hf => ?_)
        · repeat (first | refine tr_seq_k fun _ _ => ?_ | (refine tr_region ?_; simp only [go_sem, reduceCtorEq, Nat.reduceEqDiff, Nat.reduceLT, ↓reduceIte, w2, cu, ci, sh]) | (refine tr_draw (id := 5) follows 10000 [9] [0, 1, 2, 3, 4, 5, 6, 7, 8, 9, 10] (by kernel_rfl) ?_; simp only [go_sem, List.getElem?_toArray, reduceCtorEq, Nat.reduceEqDiff, Nat.reduceLT, ↓reduceIte, ixLA hx, ixLA hy, d1, d2, fitLA hx, fitLA hy]) | (refine call_of (cC) ?_ ?_; (first | rfl | simp only [go_sem, reduceCtorEq, Nat.reduceEqDiff, Nat.reduceLT, Nat.reduceLeDiff, Nat.reduceAdd, Nat.reduceMul, Nat.reduceSub, Nat.reduceBEq, ↓reduceIte, w2, cu, ci, sh, ixLA hx, ixLA hy, d1, d2, fitLA hx, fitLA hy, hlt2, shut_col]); simp only [go_sem, reduceCtorEq, Nat.reduceEqDiff, Nat.reduceLT, ↓reduceIte, Bool.true_or, hlt2]) | refine k_of (by assumption) ?_ | refine tr_block ?_ | (refine tr_skip ?_; try simp only [ex_seq]))
          refine tr_cond rfl (fun ht => ?_) (fun hf => ?_)
          · repeat ((refine tr_region ?_; simp only [go_sem, reduceCtorEq, Nat.reduceEqDiff, Nat.reduceLT, ↓reduceIte, ws]))
            exact hK (g, h + 1, j) _ _ ⟨hR2, by dsimp only; omega, by dsimp only; omega, by dsimp only; omega, by dsimp only; omega⟩ ⟨⟨rfl, rfl, rfl, rfl, rfl, rfl, rfl, trivial⟩, Keep.refl _, rfl, by simp only [lowB, lows_blC]; rfl, Nat.le_refl _, Nat.le_refl _⟩ (by dsimp only; omega)
          · cases hf
        · cases hf
      | false =>
        rw [hz] at hlt2 hR2
        rw [if_neg (by decide)] at hR2
        repeat (first | refine tr_seq_k fun _ _ => ?_ | (refine tr_region ?_; simp only [go_sem, reduceCtorEq, Nat.reduceEqDiff, Nat.reduceLT, ↓reduceIte, q1]) | refine k_of (by assumption) ?_)
        refine tr_cond rfl (fun ht => ?_) (fun hf => ?_)
        · repeat (first | refine tr_seq_k fun _ _ => ?_ | (refine tr_region ?_; simp only [go_sem, reduceCtorEq, Nat.reduceEqDiff, Nat.reduceLT, ↓reduceIte, w2, cu, ci, sh]) | (refine tr_draw (id := 5) follows 10000 [9] [0, 1, 2, 3, 4, 5, 6, 7, 8, 9, 10] (by kernel_rfl) ?_; simp only [go_sem, List.getElem?_toArray, reduceCtorEq, Nat.reduceEqDiff, Nat.reduceLT, ↓reduceIte, ixLA hx, ixLA hy, d1, d2, fitLA hx, fitLA hy]) | (refine call_of (cC) ?_ ?_; (first | rfl | simp only [go_sem, reduceCtorEq, Nat.reduceEqDiff, Nat.reduceLT, Nat.reduceLeDiff, Nat.reduceAdd, Nat.reduceMul, Nat.reduceSub, Nat.reduceBEq, ↓reduceIte, w2, cu, ci, sh, ixLA hx, ixLA hy, d1, d2, fitLA hx, fitLA hy, hlt2, shut_col]); simp only [go_sem, reduceCtorEq, Nat.reduceEqDiff, Nat.reduceLT, ↓reduceIte, Bool.true_or, hlt2]) | refine k_of (by assumption) ?_ | refine tr_block ?_ | (refine tr_skip ?_; try simp only [ex_seq]))
          refine tr_cond rfl (fun ht => ?_) (fun hf => ?_)
          · cases ht
          · repeat ((refine tr_region ?_; simp only [go_sem, reduceCtorEq, Nat.reduceEqDiff, Nat.reduceLT, ↓reduceIte]))
            exact hK (g, i, h) _ _ ⟨hR2, by dsimp only; omega, by dsimp only; omega, by dsimp only; omega, by dsimp only; omega⟩ ⟨⟨rfl, rfl, rfl, rfl, rfl, rfl, rfl, trivial⟩, Keep.refl _, rfl, by simp only [lowB, lows_blC]; rfl, Nat.le_refl _, Nat.le_refl _⟩ (by dsimp only; omega)
        · cases hf
    · have q1 : decide ((i : Int) < (j : Int)) = false := decide_eq_false (by omega)
      obtain rfl : R = i := bs_end hRR hlt
      repeat (first | refine tr_seq_k fun _ _ => ?_ | (refine tr_region ?_; simp only [go_sem, reduceCtorEq, Nat.reduceEqDiff, Nat.reduceLT, ↓reduceIte, q1]) | refine k_of (by assumption) ?_)
      refine tr_cond rfl (fun ht => ?_) (fun hf => ?_)
      · cases ht
      · have hRm : m ≤ R := hmi
        have w3 := wrap_pre (show 0 < R by omega) (by omega)
        repeat (first | refine tr_seq_k fun _ _ => ?_ | (refine tr_region ?_; simp only [go_sem, reduceCtorEq, Nat.reduceEqDiff, Nat.reduceLT, ↓reduceIte]) | refine k_of (by assumption) ?_ | refine tr_block ?_ | (refine tr_exit ?_; try simp only [ex_seq_exit, ex_block_exit, ex_seq, ↓reduceIte]))
        refine tr_loop_k (σ := Nat) (fun n => [(0, .lsl 0 0 l.length 11), (1, iA a), (2, iA m), (3, iA b), (4, cmpF), (10, iA R), (13, iA ((a + n : Nat) : Int))]) (fun n => ⟨[⟨false, blC atC (upL l a n)⟩], hw⟩)
          (fun n => n ≤ R - 1 - a) (fun n => R - 1 - a - n) 0 (Nat.zero_le _) ⟨rfl, rfl, rfl, rfl, rfl, rfl, rfl, trivial⟩ rfl ?_
        rintro n hn K2 hK2
        by_cases hnl : n < R - 1 - a
        · have q2 : decide (((a + n : Nat) : Int) < ((R - 1 : Nat) : Int)) = true := decide_eq_true (by omega)
          have w4 : IntKind.i64.wrap (((a + n : Nat) : Int) + 1) = ((a + n + 1 : Nat) : Int) := wrap_succ (show a + n ≤ 1000000000 by omega)
          have hLl := upL_len l a n
          have hn2 : upL l a (n + 1) = swapL (upL l a n) (a + n) (a + n + 1) := rfl
          have hKn := hK2 (n + 1)
          generalize upL l a (n + 1) = L2 at *
          generalize upL l a n = L at *
          have hx : a + n < L.length := by omega
          have hy : a + n + 1 < L.length := by omega
          have hx' : a + n < l.length := by omega
          have hy' : a + n + 1 < l.length := by omega
          rw [swapL_eq hx hy] at hn2
          have hy2 : a + n + 1 < (L.set (a + n) L[a + n + 1]).length := by rw [List.length_set]; exact hy
          have s1 := setLA hx L[a + n + 1]
          have s2 := setLA hy2 L[a + n]
          rw [← hn2] at s2
          have d1 := drLA hx
          have d2 := drLA hy
          repeat (first | refine tr_seq_k fun _ _ => ?_ | (refine tr_region ?_; simp only [go_sem, reduceCtorEq, Nat.reduceEqDiff, Nat.reduceLT, ↓reduceIte, w3, q2]) | refine k_of (by assumption) ?_)
          refine tr_cond rfl (fun ht => ?_) (fun hf => ?_)
          · repeat (first | refine tr_seq_k fun _ _ => ?_ | refine k_of (by assumption) ?_ | refine tr_block ?_ | (refine tr_skip ?_; try simp only [ex_seq]))
            refine tr_drawX (id := 11) follows otSymU (by kernel_rfl) ([(0, .lsl 0 0 l.length 11), (1, iA a), (2, iA m), (3, iA b), (4, cmpF), (10, iA R), (13, iA ((a + n : Nat) : Int))]) ⟨[⟨false, blC atC L2⟩], hw⟩ ?_ ?_
            · unfold otSymU
              simp only [go_sem, List.getElem?_toArray, reduceCtorEq, Nat.reduceEqDiff, Nat.reduceLT, Nat.reduceAdd, ↓reduceIte, w4, ixLA hx', ixLA hy', d1, d2, fitLA hx, fitLA hy, fitLA hy2, s1, s2]
              skip
            repeat (first | (refine tr_region ?_; simp only [go_sem, reduceCtorEq, Nat.reduceEqDiff, Nat.reduceLT, ↓reduceIte, w4]) | refine k_of (by assumption) ?_)
            exact hKn _ _ (by omega) ⟨⟨rfl, rfl, rfl, rfl, rfl, rfl, rfl, trivial⟩, Keep.refl _, rfl, by simp only [lowB, lows_blC]; rfl, Nat.le_refl _, Nat.le_refl _⟩ (by omega)
          · cases hf
        · have q2 : decide (((a + n : Nat) : Int) < ((R - 1 : Nat) : Int)) = false := decide_eq_false (by omega)
          obtain rfl : n = R - 1 - a := by omega
          repeat (first | refine tr_seq_k fun _ _ => ?_ | (refine tr_region ?_; simp only [go_sem, reduceCtorEq, Nat.reduceEqDiff, Nat.reduceLT, ↓reduceIte, w3, q2]) | refine k_of (by assumption) ?_)
          refine tr_cond rfl (fun ht => ?_) (fun hf => ?_)
          · cases ht
          · repeat (first | refine k_of (by assumption) ?_ | (refine tr_exit ?_; try simp only [ex_seq_exit, ex_block_exit, ex_seq, ↓reduceIte]) | (refine tr_ret ?_; try simp only [ex_seq_ret]))
            exact (hQ _ _ [] rfl rfl rfl).2
  · cases hf
theorem symB (l : List Atm) (a m b : Nat) (hw : List Hw) (ham : a < m) (hmb : m < b) (hbl : b ≤ l.length) (hl : l.length ≤ 1000000) (hsz : ∀ x ∈ l, AtSz x) (h1 : ¬ m - a = 1) (h2 : b - m = 1) : GivesW Tryd.prog 53 [.lsl 0 0 l.length 11, iA a, iA m, iA b, cmpF] ⟨[⟨false, blC atC l⟩], hw⟩ (.tup []) ⟨[⟨false, blC atC (downL l m (m - bs (fun h => !ltAt ltA l m h) (m - a + 1) a m))⟩], hw⟩ := by
  obtain ⟨R, hR⟩ : ∃ R, R = bs (fun h => !ltAt ltA l m h) (m - a + 1) a m := ⟨_, rfl⟩
  rw [← hR]
  have w1 := wrap_subN (show a ≤ m by omega) (by omega)
  have e0 : decide (((m - a : Nat) : Int) = 1) = false := decide_eq_false (by omega)
  have e0' : (((m - a : Nat) : Int) == 1) = false := by rw [beq_eq_false_iff_ne]; omega
  have w2 := wrap_subN (show m ≤ b by omega) (by omega)
  rw [h2] at w2
  have e1 : decide (((1 : Nat) : Int) = 1) = true := by decide
  have e2 : (((1 : Nat) : Int) == 1) = true := by decide
  refine givesW_of' Tryd.func53 rfl (by kernel_rfl) Tryd.ntmps53 rfl rfl fun Q hQ => ?_
  repeat (first | refine tr_seq_k fun _ _ => ?_ | (refine tr_region ?_; simp only [go_sem, reduceCtorEq, Nat.reduceEqDiff, Nat.reduceLT, Nat.reduceAdd, ↓reduceIte, w1, e0']) | refine k_of (by assumption) ?_)
  refine tr_cond rfl (fun ht => ?_) (fun hf => ?_)
  · cases ht
  · repeat (first | refine tr_seq_k fun _ _ => ?_ | (refine tr_region ?_; simp only [go_sem, reduceCtorEq, Nat.reduceEqDiff, Nat.reduceLT, ↓reduceIte, w2, e2]) | refine k_of (by assumption) ?_ | (refine tr_skip ?_; try simp only [ex_seq]))
    refine tr_cond rfl (fun ht => ?_) (fun hf => ?_)
    · repeat (first | refine tr_seq_k fun _ _ => ?_ | (refine tr_region ?_; simp only [go_sem, reduceCtorEq, Nat.reduceEqDiff, Nat.reduceLT, ↓reduceIte]) | refine k_of (by assumption) ?_ | refine tr_block ?_)
      refine tr_loop_k (σ := Nat × Nat × Nat) (fun q => [(0, .lsl 0 0 l.length 11), (1, iA a), (2, iA m), (3, iA b), (4, cmpF), (14, iA q.2.1), (15, iA q.2.2)]) (fun q => ⟨[⟨false, blC atC l⟩], hw⟩)
        (fun q => R = bs (fun h => !ltAt ltA l m h) (q.1 + 1) q.2.1 q.2.2 ∧ a ≤ q.2.1 ∧ q.2.1 ≤ q.2.2 ∧ q.2.2 ≤ m ∧ q.2.2 - q.2.1 ≤ q.1) (fun q => q.2.2 - q.2.1) (m - a, a, m) ⟨hR, Nat.le_refl _, by dsimp only; omega, Nat.le_refl _, Nat.le_refl _⟩ ⟨rfl, rfl, rfl, rfl, rfl, rfl, rfl, trivial⟩ rfl ?_
      rintro ⟨g, i, j⟩ ⟨hRR, hmi, hij, hjb, hg⟩ K hK
      dsimp only at hRR hmi hij hjb hg ⊢
      by_cases hlt : i < j
      · have q1 : decide ((i : Int) < (j : Int)) = true := decide_eq_true (by omega)
        obtain ⟨g, rfl⟩ : ∃ z, g = z + 1 := ⟨g - 1, by omega⟩
        have w2 := wrap_addN (show i + j ≤ 1000000000 by omega)
        have w2b : i + j ≤ 1000000000 := by omega
        have w2c : (i + j) / 2 ≤ 1000000000 := by omega
        have hR2 := bs_hit hRR hlt
        have hh1 : i ≤ (i + j) / 2 := by omega
        have hh2 : (i + j) / 2 < j := by omega
        have sh := shO (i + j)
        have cu := cvU _ w2b
        have ci := cvI _ w2c
        generalize (i + j) / 2 = h at *
        have ws := wrap_succ (show h ≤ 1000000000 by omega)
        have hx : m < l.length := by omega
        have hy : h < l.length := by omega
        have cC := cmpA_does l[m] l[h] (hsz _ (List.getElem_mem hx)) (hsz _ (List.getElem_mem hy))
        have hlt2 := cmpA_lt l[m] l[h]
        have d1 := drLA hx
        have d2 := drLA hy
        rw [ltAt_eq hx hy] at hR2
        cases hz : ltA l[m] l[h] with
        | true =>
          rw [hz] at hlt2 hR2
          rw [if_neg (by decide)] at hR2
          repeat (first | refine tr_seq_k fun _ _ => ?_ | (refine tr_region ?_; simp only [go_sem, reduceCtorEq, Nat.reduceEqDiff, Nat.reduceLT, ↓reduceIte, q1]) | refine k_of (by assumption) ?_)
          refine tr_cond rfl (fun ht => ?_) (fun hf => ?_)
          · repeat (first | refine tr_seq_k fun _ _ => ?_ | (refine tr_region ?_; simp only [go_sem, reduceCtorEq, Nat.reduceEqDiff, Nat.reduceLT, ↓reduceIte, w2, cu, ci, sh]) | (refine tr_draw (id := 17) follows 10000 [9] [0, 1, 2, 3, 4, 5, 6, 7, 8, 9, 10, 11] (by kernel_rfl) ?_; simp only [go_sem, List.getElem?_toArray, reduceCtorEq, Nat.reduceEqDiff, Nat.reduceLT, ↓reduceIte, ixLA hx, ixLA hy, d1, d2, fitLA hx, fitLA hy]) | (refine call_of (cC) ?_ ?_; (first | rfl | simp only [go_sem, reduceCtorEq, Nat.reduceEqDiff, Nat.reduceLT, Nat.reduceLeDiff, Nat.reduceAdd, Nat.reduceMul, Nat.reduceSub, Nat.reduceBEq, ↓reduceIte, w2, cu, ci, sh, ixLA hx, ixLA hy, d1, d2, fitLA hx, fitLA hy, hlt2, shut_col]); simp only [go_sem, reduceCtorEq, Nat.reduceEqDiff, Nat.reduceLT, ↓reduceIte, Bool.true_or, hlt2]) | refine k_of (by assumption) ?_ | refine tr_block ?_ | (refine tr_skip ?_; try simp only [ex_seq]))
            refine tr_cond rfl (fun ht => ?_) (fun hf => ?_)
            · cases ht
            · repeat ((refine tr_region ?_; simp only [go_sem, reduceCtorEq, Nat.reduceEqDiff, Nat.reduceLT, ↓reduceIte]))
              exact hK (g, i, h) _ _ ⟨hR2, by dsimp only; omega, by dsimp only; omega, by dsimp only; omega, by dsimp only; omega⟩ ⟨⟨rfl, rfl, rfl, rfl, rfl, rfl, rfl, trivial⟩, Keep.refl _, rfl, by simp only [lowB, lows_blC]; rfl, Nat.le_refl _, Nat.le_refl _⟩ (by dsimp only; omega)
          · cases hf
        | false =>
          rw [hz] at hlt2 hR2
          rw [if_pos (by decide)] at hR2
          repeat (first | refine tr_seq_k fun _ _ => ?_ | (refine tr_region ?_; simp only [go_sem, reduceCtorEq, Nat.reduceEqDiff, Nat.reduceLT, ↓reduceIte, q1]) | refine k_of (by assumption) ?_)
          refine tr_cond rfl (fun ht => ?_) (fun hf => ?_)
          · repeat (first | refine tr_seq_k fun _ _ => ?_ | (refine tr_region ?_; simp only [go_sem, reduceCtorEq, Nat.reduceEqDiff, Nat.reduceLT, ↓reduceIte, w2, cu, ci, sh]) | (refine tr_draw (id := 17) follows 10000 [9] [0, 1, 2, 3, 4, 5, 6, 7, 8, 9, 10, 11] (by kernel_rfl) ?_; simp only [go_sem, List.getElem?_toArray, reduceCtorEq, Nat.reduceEqDiff, Nat.reduceLT, ↓reduceIte, ixLA hx, ixLA hy, d1, d2, fitLA hx, fitLA hy]) | (refine call_of (cC) ?_ ?_; (first | rfl | simp only [go_sem, reduceCtorEq, Nat.reduceEqDiff, Nat.reduceLT, Nat.reduceLeDiff, Nat.reduceAdd, Nat.reduceMul, Nat.reduceSub, Nat.reduceBEq, ↓reduceIte, w2, cu, ci, sh, ixLA hx, ixLA hy, d1, d2, fitLA hx, fitLA hy, hlt2, shut_col]); simp only [go_sem, reduceCtorEq, Nat.reduceEqDiff, Nat.reduceLT, ↓reduceIte, Bool.true_or, hlt2]) | refine k_of (by assumption) ?_ | refine tr_block ?_ | (refine tr_skip ?_; try simp only [ex_seq]))
            refine tr_cond rfl (fun ht => ?_) (fun hf => ?_)
            · repeat ((refine tr_region ?_; simp only [go_sem, reduceCtorEq, Nat.reduceEqDiff, Nat.reduceLT, ↓reduceIte, ws]))
              exact hK (g, h + 1, j) _ _ ⟨hR2, by dsimp only; omega, by dsimp only; omega, by dsimp only; omega, by dsimp only; omega⟩ ⟨⟨rfl, rfl, rfl, rfl, rfl, rfl, rfl, trivial⟩, Keep.refl _, rfl, by simp only [lowB, lows_blC]; rfl, Nat.le_refl _, Nat.le_refl _⟩ (by dsimp only; omega)
            · cases hf
          · cases hf
      · have q1 : decide ((i : Int) < (j : Int)) = false := decide_eq_false (by omega)
        obtain rfl : R = i := bs_end hRR hlt
        repeat (first | refine tr_seq_k fun _ _ => ?_ | (refine tr_region ?_; simp only [go_sem, reduceCtorEq, Nat.reduceEqDiff, Nat.reduceLT, ↓reduceIte, q1]) | refine k_of (by assumption) ?_)
        refine tr_cond rfl (fun ht => ?_) (fun hf => ?_)
        · cases ht
        · have hRm : a ≤ R := hmi
          repeat (first | refine tr_seq_k fun _ _ => ?_ | (refine tr_region ?_; simp only [go_sem, reduceCtorEq, Nat.reduceEqDiff, Nat.reduceLT, ↓reduceIte]) | refine k_of (by assumption) ?_ | refine tr_block ?_ | (refine tr_exit ?_; try simp only [ex_seq_exit, ex_block_exit, ex_seq, ↓reduceIte]))
          refine tr_loop_k (σ := Nat) (fun n => [(0, .lsl 0 0 l.length 11), (1, iA a), (2, iA m), (3, iA b), (4, cmpF), (14, iA R), (17, iA ((m - n : Nat) : Int))]) (fun n => ⟨[⟨false, blC atC (downL l m n)⟩], hw⟩)
            (fun n => n ≤ m - R) (fun n => m - R - n) 0 (Nat.zero_le _) ⟨rfl, rfl, rfl, rfl, rfl, rfl, rfl, trivial⟩ rfl ?_
          rintro n hn K2 hK2
          by_cases hnl : n < m - R
          · have q2 : decide (((m - n : Nat) : Int) > (R : Int)) = true := decide_eq_true (by omega)
            have w4 : IntKind.i64.wrap (((m - n : Nat) : Int) - 1) = ((m - n - 1 : Nat) : Int) := wrap_pre (show 0 < m - n by omega) (by omega)
            have w5 : IntKind.i64.wrap (((m - n : Nat) : Int) - 1) = ((m - (n + 1) : Nat) : Int) := w4
            have hLl := downL_len l m n
            have hn2 : downL l m (n + 1) = swapL (downL l m n) (m - n - 1) (m - n) := rfl
            have hKn := hK2 (n + 1)
            have hmn : m - (n + 1) = m - n - 1 := rfl
            rw [hmn] at hKn
            generalize downL l m (n + 1) = L2 at *
            generalize downL l m n = L at *
            have hx : m - n < L.length := by omega
            have hy : m - n - 1 < L.length := by omega
            have hx' : m - n < l.length := by omega
            have hy' : m - n - 1 < l.length := by omega
            rw [swapL_comm _ (by omega), swapL_eq hx hy] at hn2
            have hy2 : m - n - 1 < (L.set (m - n) L[m - n - 1]).length := by rw [List.length_set]; exact hy
            have s1 := setLA hx L[m - n - 1]
            have s2 := setLA hy2 L[m - n]
            rw [← hn2] at s2
            have d1 := drLA hx
            have d2 := drLA hy
            repeat (first | refine tr_seq_k fun _ _ => ?_ | (refine tr_region ?_; simp only [go_sem, reduceCtorEq, Nat.reduceEqDiff, Nat.reduceLT, ↓reduceIte, q2]) | refine k_of (by assumption) ?_)
            refine tr_cond rfl (fun ht => ?_) (fun hf => ?_)
            · repeat (first | refine tr_seq_k fun _ _ => ?_ | refine k_of (by assumption) ?_ | refine tr_block ?_ | (refine tr_skip ?_; try simp only [ex_seq]))
              refine tr_drawX (id := 23) follows otSymD (by kernel_rfl) ([(0, .lsl 0 0 l.length 11), (1, iA a), (2, iA m), (3, iA b), (4, cmpF), (14, iA R), (17, iA ((m - n : Nat) : Int))]) ⟨[⟨false, blC atC L2⟩], hw⟩ ?_ ?_
              · unfold otSymD
                simp only [go_sem, List.getElem?_toArray, reduceCtorEq, Nat.reduceEqDiff, Nat.reduceLT, Nat.reduceAdd, ↓reduceIte, w4, ixLA hx', ixLA hy', d1, d2, fitLA hx, fitLA hy, fitLA hy2, s1, s2]
                skip
              repeat (first | (refine tr_region ?_; simp only [go_sem, reduceCtorEq, Nat.reduceEqDiff, Nat.reduceLT, ↓reduceIte, w4]) | refine k_of (by assumption) ?_)
              exact hKn _ _ (by omega) ⟨⟨rfl, rfl, rfl, rfl, rfl, rfl, rfl, trivial⟩, Keep.refl _, rfl, by simp only [lowB, lows_blC]; rfl, Nat.le_refl _, Nat.le_refl _⟩ (by omega)
            · cases hf
          · have q2 : decide (((m - n : Nat) : Int) > (R : Int)) = false := decide_eq_false (by omega)
            obtain rfl : n = m - R := by omega
            repeat (first | refine tr_seq_k fun _ _ => ?_ | (refine tr_region ?_; simp only [go_sem, reduceCtorEq, Nat.reduceEqDiff, Nat.reduceLT, ↓reduceIte, q2]) | refine k_of (by assumption) ?_)
            refine tr_cond rfl (fun ht => ?_) (fun hf => ?_)
            · cases ht
            · repeat (first | refine k_of (by assumption) ?_ | (refine tr_exit ?_; try simp only [ex_seq_exit, ex_block_exit, ex_seq, ↓reduceIte]) | (refine tr_ret ?_; try simp only [ex_seq_ret]))
              exact (hQ _ _ [] rfl rfl rfl).2
    · cases hf
end Go.Proofs.YtinbfakpjnnagaaDoor
