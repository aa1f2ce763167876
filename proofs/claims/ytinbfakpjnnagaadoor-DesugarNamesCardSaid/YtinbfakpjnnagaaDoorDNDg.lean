/-
  Chapter 13: a grant's clause: slices.Clone, slices.Insert, seen in the world itself.
-/
import Derived.Test.YtinbfakpjnnagaaDoorDNDe
import Derived.Test.YtinbfakpjnnagaaDoorDNm0
import Derived.Test.YtinbfakpjnnagaaDoorDNm1
set_option linter.unusedSimpArgs false
set_option linter.unusedVariables false
namespace Go.Proofs.YtinbfakpjnnagaaDoor
open Go.RowKit Go.Lib Go.Vs Go.Vs.Ab
set_option maxRecDepth 100000
set_option maxHeartbeats 4000000
theorem build0A' : aBuildSlice Tryd.prog 33 0 [] = some [] := by kernel_rfl
theorem cloneA_own (l : List Atm) (ex : Bool) (hl : l.length ≤ 1000000) : Does Tryd.prog 25 [.c (slC atC ex l)] (freshA atC 39 11 l) := by
  have hA : aAppend Tryd.prog ⟨[], []⟩ 33 (.c (.sl true 0 [])) (.c (slC atC ex l)) = some (colA atC 0 l, ⟨[], colH 39 11 l⟩) :=
    app_any (P := Tryd.prog) atC (size := 11) (bytes := 136) (fun _ => rfl) Tryd.underlying33 info_a (hp := []) (l := []) (r := l) (ex := ex) (by rw [List.length_nil, Nat.zero_add]; exact Nat.le_trans hl (by decide)) (by rw [List.length_nil]; omega)
  refine does_of' Tryd.func25 rfl (by kernel_rfl) rfl Tryd.ntmps25 rfl rfl fun Q hQ => ?_
  refine tr_seq_k fun _ _ => ?_
  refine tr_region ?_
  simp only [go_sem, reduceCtorEq, Nat.reduceLT, ↓reduceIte]
  refine k_of (by assumption) ?_
  refine tr_seq_k fun _ _ => ?_
  refine tr_seq_k fun _ _ => ?_
  refine tr_nil2 (s := 0) (d1 := 3) (n := l.length) (ex := ex) (cs := l.flatMap atC) ?_ ?_ ?_ ?_ ?_ ?_ <;> first | rfl | skip
  intro a cap hn
  cases a with
  | none =>
    have h0 : l = [] := List.eq_nil_of_length_eq_zero (hn rfl).1
    subst h0
    have hq := bin_nil (P := Tryd.prog) Tryd.underlying33 none 0 cap
    simp only [go_sem, reduceCtorEq, Nat.reduceEqDiff, Nat.reduceLT, ↓reduceIte, hq, Option.isNone_none]
    repeat (refine k_of (by assumption) ?_)
    refine tr_cond rfl (fun ht => ?_) (fun hf => ?_)
    · repeat (first | refine tr_seq_k fun _ _ => ?_ | (refine tr_region ?_; simp only [go_sem, reduceCtorEq, Nat.reduceEqDiff, Nat.reduceLT, ↓reduceIte]) | refine k_of (by assumption) ?_ | (refine tr_ret ?_; try simp only [ex_seq_ret]))
      refine (hQ _ _ [.c (.sl true 0 [])] ?_ (fun m => ret_col atC 39 11 [] _ m)).2 <;> simp only [go_sem, reduceCtorEq, Nat.reduceEqDiff, ↓reduceIte, Tryd.f25]
    · cases hf
  | some a =>
    have hq := bin_nil (P := Tryd.prog) Tryd.underlying33 (some a) l.length cap
    simp only [go_sem, reduceCtorEq, Nat.reduceEqDiff, Nat.reduceLT, ↓reduceIte, hq, Option.isNone_some]
    repeat (refine k_of (by assumption) ?_)
    refine tr_cond rfl (fun ht => ?_) (fun hf => ?_)
    · cases ht
    · repeat (first | refine tr_seq_k fun _ _ => ?_ | (refine tr_region ?_; simp only [go_sem, reduceCtorEq, Nat.reduceEqDiff, Nat.reduceLT, ↓reduceIte, build0A', zero_max, hA]) | refine k_of (by assumption) ?_ | (refine tr_skip ?_; try simp only [ex_seq]) | (refine tr_ret ?_; try simp only [ex_seq_ret, ex_block_ret]))
      refine (hQ _ _ [colA atC 0 l] ?_ (fun m => ret_col atC 39 11 l _ m)).2 <;> simp only [go_sem, reduceCtorEq, Nat.reduceEqDiff, ↓reduceIte, Tryd.f25]
theorem vals_atC (a : Atm) : vals (atC a) = some a.cells.toList := rfl
theorem one_atC (a : Atm) : ∀ u ∈ a.cells.toList, u.oneCell' = true := fun u hu => by
  simp [Atm.cells] at hu
  rcases hu with rfl | rfl | rfl | rfl | rfl | rfl | rfl | rfl | rfl | rfl | rfl <;> rfl
def CopyA (w w' : World) (cs : List Value) (n : Nat) (v : Value) : Prop := (n = 0 ∧ ∃ base, v = .slice base 0 0) ∨
  (0 < n ∧ ∃ (g G : Nat) (cur : Array Value), v = .slice (some ⟨g, 0, none⟩) n G ∧ w.heap.size ≤ g ∧ w'.heap[g]? = some (.cells cur 39 (0, 0)) ∧ cur.size = G * 11 ∧ n ≤ G ∧ G ≤ maxLen ∧ ∀ (j : Nat) (u : Value), cs[j]? = some u → cur[j]? = some u)
theorem clone_raw (l : List Atm) (hl : l.length ≤ 1000000) (w : World) (v : Value) (hr : Rd w 11 v l.length (l.flatMap fun a => a.cells.toList)) (hg : Gl w) :
    Calls Tryd.prog 25 #[v] w fun e w' => Below w.heap.size w w' ∧ ∃ u, e = .returned u ∧ CopyA w w' (l.flatMap fun a => a.cells.toList) l.length u := by
  have h := cloneA_own l false hl
  have M : MR (all w) w ⟨[], []⟩ w :=
    ⟨Below.refl _ w, fun _ _ _ h => h, (fun _ _ h => by cases h), (fun _ _ h => by simp at h), (fun _ _ _ _ _ h => by cases h), (fun _ _ h => by cases h), (fun _ _ h => by simp at h), (fun _ _ _ _ h => by cases h), hg, (fun _ h => absurd h (Nat.lt_irrefl 0))⟩
  refine (h.2 (all w) w ⟨[], []⟩ w #[v] M (mk_reps1 (rep_of_rd vals_atC one_atC hr))).mono ?_
  rintro _ w' ⟨u, X1, rfl, k1, k2, k3, _⟩
  refine ⟨k3.below, u, rfl, ?_⟩
  by_cases hne : l = []
  · subst hne
    refine Or.inl ⟨rfl, ?_⟩
    have k2 : Rep X1 (.c (.sl true 0 [])) u := k2
    cases k2 with
    | c k2 =>
      cases k2 with
      | sl hl hh hn hc he hax =>
        obtain rfl := he rfl
        exact ⟨_, rfl⟩
  · refine Or.inr ⟨List.length_pos_iff.2 hne, ?_⟩
    unfold freshA at k2 k3
    rw [colA_ne atC _ hne] at k2
    rw [colH_ne _ _ hne] at k3
    obtain ⟨T, t1, ⟨t2, t2e, t2s⟩, t3, t4, t5, t6, ⟨cur, t7, t8⟩, t9, t10⟩ := k3.toks 0 _ rfl
    simp only at t2 t2e t2s
    have k2 : Rep X1 (.own 0 l.length (l.flatMap atC)) u := k2
    cases k2 with
    | own hr hn1 hc hx ht =>
      rename_i ys a cap
      obtain ⟨T', u1, u2, u3⟩ := ht
      rw [t1] at u1
      injection u1 with u1
      subst u1
      obtain ⟨rfl, rfl⟩ := u3 t2.symm
      obtain rfl := vals_rep (vals_flat vals_atC l) hr
      rw [t2e] at t7
      rw [t2s] at t8
      refine ⟨T.g, T.cap, cur, rfl, t3, t7, t8, hn1, t5, fun j x hj => ?_⟩
      obtain ⟨b, o, e1, e2⟩ := hx j x hj
      injection e1 with e1
      injection e1 with e1 e3
      subst e1 e3
      have h5 := k3.cell _ _ _ e2
      rw [Nat.zero_add] at h5
      simp only [World.cell?, t7] at h5
      simpa using h5
theorem CopyA.below {w w1 w2 : World} {cs : List Value} {n : Nat} {v : Value} (h : CopyA w w1 cs n v) (hb : ∀ g, w.heap.size ≤ g → g < w1.heap.size → w2.heap[g]? = w1.heap[g]?) : CopyA w w2 cs n v := by
  rcases h with h | ⟨h0, g, G, cur, h1, h2, h3, h4⟩
  · exact Or.inl h
  · exact Or.inr ⟨h0, g, G, cur, h1, h2, (hb g h2 (Array.getElem?_eq_some_iff.1 h3).1).trans h3, h4⟩
theorem heap_new (w : World) (o : Obj) : (w.alloc o).heap[w.heap.size]? = some o := by
  show (w.heap.push o)[w.heap.size]? = some o
  exact Array.getElem?_push_size
def GetC (b : Nat) (row : Array Value) (t : TypeId) (w : World) : Prop := w.heap[b]? = some (.cells row t (0, 0))
theorem stated_raw (h : Atm) (l : List Atm) (hl : l.length ≤ 1000000) (w : World) (v : Value) (hr : Rd w 11 v l.length (l.flatMap fun a => a.cells.toList)) (hg : Gl w) :
    Calls Tryd.prog 14 #[.agg (h.cells ++ #[v])] w fun e w' => Below w.heap.size w w' ∧ ∃ u, e = .returned (.agg (h.cells ++ #[u])) ∧ CopyA w w' (l.flatMap fun a => a.cells.toList) l.length u := by
  have mixed : Tryd.prog.follows Departure.mixedOrders = true := by kernel_rfl
  unfold Atm.cells
  go_enter Tryd.func14, Tryd.ntmps14
  go_wp2_with (fail)
  obtain ⟨W1, hW1⟩ : ∃ W1, W1 = ((w.alloc (Obj.cells #[.string h.says, .string h.pred, .int .i64 h.n, .bool h.a0.v, .string h.a0.name, .bool h.a1.v, .string h.a1.name, .bool h.a2.v, .string h.a2.name, .bool h.a3.v, .string h.a3.name, v] 56)).alloc (Obj.cells #[.string ⟨#[]⟩, .string ⟨#[]⟩, .int .i64 0, .bool false, .string ⟨#[]⟩, .bool false, .string ⟨#[]⟩, .bool false, .string ⟨#[]⟩, .bool false, .string ⟨#[]⟩, .slice none 0 0] 45)) := ⟨_, rfl⟩
  have e1 : W1.heap[w.heap.size]? = some (.cells #[.string h.says, .string h.pred, .int .i64 h.n, .bool h.a0.v, .string h.a0.name, .bool h.a1.v, .string h.a1.name, .bool h.a2.v, .string h.a2.name, .bool h.a3.v, .string h.a3.name, v] 56 (0, 0)) := by
    rw [hW1, halloc_old _ _ _ (by rw [World.size_alloc]; omega)]
    exact heap_new w _
  have e2 : W1.heap[w.heap.size + 1]? = some (.cells #[.string ⟨#[]⟩, .string ⟨#[]⟩, .int .i64 0, .bool false, .string ⟨#[]⟩, .bool false, .string ⟨#[]⟩, .bool false, .string ⟨#[]⟩, .bool false, .string ⟨#[]⟩, .slice none 0 0] 45 (0, 0)) := by
    have := heap_new (w.alloc (Obj.cells #[.string h.says, .string h.pred, .int .i64 h.n, .bool h.a0.v, .string h.a0.name, .bool h.a1.v, .string h.a1.name, .bool h.a2.v, .string h.a2.name, .bool h.a3.v, .string h.a3.name, v] 56)) (Obj.cells #[.string ⟨#[]⟩, .string ⟨#[]⟩, .int .i64 0, .bool false, .string ⟨#[]⟩, .bool false, .string ⟨#[]⟩, .bool false, .string ⟨#[]⟩, .bool false, .string ⟨#[]⟩, .slice none 0 0] 45)
    rw [World.size_alloc, ← hW1] at this
    exact this
  have B1 : Below w.heap.size w W1 := by
    rw [hW1]
    exact ((Below.refl _ w).alloc (Nat.le_refl _) _).alloc (by rw [World.size_alloc]; omega) _
  have z1 : W1.heap.size = w.heap.size + 2 := by rw [hW1, World.size_alloc, World.size_alloc]
  rw [← hW1]
  clear hW1
  have HS : Hid (GetC w.heap.size (#[.string h.says, .string h.pred, .int .i64 h.n, .bool h.a0.v, .string h.a0.name, .bool h.a1.v, .string h.a1.name, .bool h.a2.v, .string h.a2.name, .bool h.a3.v, .string h.a3.name, v] : Array Value) 56 W1.drew) := Lib.hid (p := GetC _ _ _ _) e1
  have HE2 := Lib.hid e2
  have HB1 := Lib.hid B1
  have HZ := Lib.hid z1
  have HR := Lib.hid (hr.kept B1)
  have HG := Lib.hid (hg.below B1)
  clear e1 e2 B1 z1 hr hg
  refine wp_region_ord 6 [4, 6] [0, 1, 2, 3, 4, 5, 6] (GetC w.heap.size (#[.string h.says, .string h.pred, .int .i64 h.n, .bool h.a0.v, .string h.a0.name, .bool h.a1.v, .string h.a1.name, .bool h.a2.v, .string h.a2.name, .bool h.a3.v, .string h.a3.name, v] : Array Value) 56) (by kernel_rfl) (by kernel_rfl) HS.out ?_
  iterate 4 (refine wpOrd_one rfl rfl rfl rfl rfl HS.out ?_; apply Exists.intro; refine ⟨fun w' hS' => ?_, ?_⟩; (have c0 : w'.cell? ⟨w.heap.size, 0, none⟩ = some (.string h.says) := cell_of_heap hS' rfl; have c1 : w'.cell? ⟨w.heap.size, 1, none⟩ = some (.string h.pred) := cell_of_heap hS' rfl; have c2 : w'.cell? ⟨w.heap.size, 2, none⟩ = some (.int .i64 h.n) := cell_of_heap hS' rfl; have c3 : w'.cell? ⟨w.heap.size, 3, none⟩ = some (.bool h.a0.v) := cell_of_heap hS' rfl; have c4 : w'.cell? ⟨w.heap.size, 4, none⟩ = some (.string h.a0.name) := cell_of_heap hS' rfl; have c5 : w'.cell? ⟨w.heap.size, 5, none⟩ = some (.bool h.a1.v) := cell_of_heap hS' rfl; have c6 : w'.cell? ⟨w.heap.size, 6, none⟩ = some (.string h.a1.name) := cell_of_heap hS' rfl; have c7 : w'.cell? ⟨w.heap.size, 7, none⟩ = some (.bool h.a2.v) := cell_of_heap hS' rfl; have c8 : w'.cell? ⟨w.heap.size, 8, none⟩ = some (.string h.a2.name) := cell_of_heap hS' rfl; have c9 : w'.cell? ⟨w.heap.size, 9, none⟩ = some (.bool h.a3.v) := cell_of_heap hS' rfl; have c10 : w'.cell? ⟨w.heap.size, 10, none⟩ = some (.string h.a3.name) := cell_of_heap hS' rfl; have c11 : w'.cell? ⟨w.heap.size, 11, none⟩ = some (v) := cell_of_heap hS' rfl; go_wp2_with (fail); exact ⟨rfl, rfl, rfl⟩); skip)
  refine wpOrd_loud rfl rfl ?_
  go_wp2_with (fail)
  refine (clone_raw l hl W1.drew v HR.out.drew HG.out).mono ?_
  rintro _ w2 ⟨hb2, u, rfl, hcp⟩
  have HS2 : Hid (GetC w.heap.size (#[.string h.says, .string h.pred, .int .i64 h.n, .bool h.a0.v, .string h.a0.name, .bool h.a1.v, .string h.a1.name, .bool h.a2.v, .string h.a2.name, .bool h.a3.v, .string h.a3.name, v] : Array Value) 56 w2) := Lib.hid (p := GetC _ _ _ _) ((hb2.block _ (by show w.heap.size < W1.heap.size; rw [HZ.out]; omega)).trans HS.out)
  have q2 : w2.heap[w.heap.size + 1]? = some (.cells #[.string ⟨#[]⟩, .string ⟨#[]⟩, .int .i64 0, .bool false, .string ⟨#[]⟩, .bool false, .string ⟨#[]⟩, .bool false, .string ⟨#[]⟩, .bool false, .string ⟨#[]⟩, .slice none 0 0] 45 (0, 0)) := (hb2.block _ (by show w.heap.size + 1 < W1.heap.size; rw [HZ.out]; omega)).trans HE2.out
  have HQ2 := Lib.hid q2
  have HB2 := Lib.hid (HB1.out.drew.trans (hb2.mono (by show w.heap.size ≤ W1.heap.size; rw [HZ.out]; omega)))
  have hlt : W1.heap.size = W1.drew.heap.size := rfl
  have HC := Lib.hid hcp
  obtain ⟨ub, un, uc, rfl⟩ : ∃ ub un uc, u = .slice ub un uc := by
    rcases hcp with ⟨_, b, rfl⟩ | ⟨_, g, G, cur, rfl, _⟩ <;> exact ⟨_, _, _, rfl⟩
  clear hb2 q2 hcp hlt
  go_wp2_with (fail)
  refine ⟨fun _ => HS2.out, ?_⟩
  iterate 1 (refine wpOrd_one rfl rfl rfl rfl rfl HS2.out ?_; apply Exists.intro; refine ⟨fun w' hS' => ?_, ?_⟩; (go_wp2_with (fail); exact ⟨rfl, rfl, rfl⟩); skip)
  refine wpOrd_loud rfl rfl ?_
  have r0 : w2.cell? ⟨w.heap.size + 1, 0, none⟩ = some (.string ⟨#[]⟩) := cell_of_heap HQ2.out rfl
  have f0 : w2.frozen? ⟨w.heap.size + 1, 0, none⟩ = false := Vs.frozen_of_heap HQ2.out 0
  have r1 : w2.cell? ⟨w.heap.size + 1, 1, none⟩ = some (.string ⟨#[]⟩) := cell_of_heap HQ2.out rfl
  have f1 : w2.frozen? ⟨w.heap.size + 1, 1, none⟩ = false := Vs.frozen_of_heap HQ2.out 1
  have r2 : w2.cell? ⟨w.heap.size + 1, 2, none⟩ = some (.int .i64 0) := cell_of_heap HQ2.out rfl
  have f2 : w2.frozen? ⟨w.heap.size + 1, 2, none⟩ = false := Vs.frozen_of_heap HQ2.out 2
  have r3 : w2.cell? ⟨w.heap.size + 1, 3, none⟩ = some (.bool false) := cell_of_heap HQ2.out rfl
  have f3 : w2.frozen? ⟨w.heap.size + 1, 3, none⟩ = false := Vs.frozen_of_heap HQ2.out 3
  have r4 : w2.cell? ⟨w.heap.size + 1, 4, none⟩ = some (.string ⟨#[]⟩) := cell_of_heap HQ2.out rfl
  have f4 : w2.frozen? ⟨w.heap.size + 1, 4, none⟩ = false := Vs.frozen_of_heap HQ2.out 4
  have r5 : w2.cell? ⟨w.heap.size + 1, 5, none⟩ = some (.bool false) := cell_of_heap HQ2.out rfl
  have f5 : w2.frozen? ⟨w.heap.size + 1, 5, none⟩ = false := Vs.frozen_of_heap HQ2.out 5
  have r6 : w2.cell? ⟨w.heap.size + 1, 6, none⟩ = some (.string ⟨#[]⟩) := cell_of_heap HQ2.out rfl
  have f6 : w2.frozen? ⟨w.heap.size + 1, 6, none⟩ = false := Vs.frozen_of_heap HQ2.out 6
  have r7 : w2.cell? ⟨w.heap.size + 1, 7, none⟩ = some (.bool false) := cell_of_heap HQ2.out rfl
  have f7 : w2.frozen? ⟨w.heap.size + 1, 7, none⟩ = false := Vs.frozen_of_heap HQ2.out 7
  have r8 : w2.cell? ⟨w.heap.size + 1, 8, none⟩ = some (.string ⟨#[]⟩) := cell_of_heap HQ2.out rfl
  have f8 : w2.frozen? ⟨w.heap.size + 1, 8, none⟩ = false := Vs.frozen_of_heap HQ2.out 8
  have r9 : w2.cell? ⟨w.heap.size + 1, 9, none⟩ = some (.bool false) := cell_of_heap HQ2.out rfl
  have f9 : w2.frozen? ⟨w.heap.size + 1, 9, none⟩ = false := Vs.frozen_of_heap HQ2.out 9
  have r10 : w2.cell? ⟨w.heap.size + 1, 10, none⟩ = some (.string ⟨#[]⟩) := cell_of_heap HQ2.out rfl
  have f10 : w2.frozen? ⟨w.heap.size + 1, 10, none⟩ = false := Vs.frozen_of_heap HQ2.out 10
  have r11 : w2.cell? ⟨w.heap.size + 1, 11, none⟩ = some (.slice none 0 0) := cell_of_heap HQ2.out rfl
  have f11 : w2.frozen? ⟨w.heap.size + 1, 11, none⟩ = false := Vs.frozen_of_heap HQ2.out 11
  go_wp2_with (fail)
  refine ⟨(fun h => by cases h), ?_⟩
  refine wpOrd_end ?_
  have HH : Hid (∀ g, g ≠ w.heap.size + 1 → (((((((((((((w2.setCell ⟨w.heap.size + 1, 0, none⟩ (.string h.says)).setCell ⟨w.heap.size + 1, 1, none⟩ (.string h.pred)).setCell ⟨w.heap.size + 1, 2, none⟩ (.int .i64 h.n)).setCell ⟨w.heap.size + 1, 3, none⟩ (.bool h.a0.v)).setCell ⟨w.heap.size + 1, 4, none⟩ (.string h.a0.name)).setCell ⟨w.heap.size + 1, 5, none⟩ (.bool h.a1.v)).setCell ⟨w.heap.size + 1, 6, none⟩ (.string h.a1.name)).setCell ⟨w.heap.size + 1, 7, none⟩ (.bool h.a2.v)).setCell ⟨w.heap.size + 1, 8, none⟩ (.string h.a2.name)).setCell ⟨w.heap.size + 1, 9, none⟩ (.bool h.a3.v)).setCell ⟨w.heap.size + 1, 10, none⟩ (.string h.a3.name)).setCell ⟨w.heap.size + 1, 11, none⟩ (.slice ub un uc))).heap[g]? = w2.heap[g]?) := Lib.hid fun g hg => by
    rw [hset_other _ _ _ _ _ hg, hset_other _ _ _ _ _ hg, hset_other _ _ _ _ _ hg, hset_other _ _ _ _ _ hg, hset_other _ _ _ _ _ hg, hset_other _ _ _ _ _ hg, hset_other _ _ _ _ _ hg, hset_other _ _ _ _ _ hg, hset_other _ _ _ _ _ hg, hset_other _ _ _ _ _ hg, hset_other _ _ _ _ _ hg, hset_other _ _ _ _ _ hg]
  have HB3 := Lib.hid ((((((((((((HB2.out.setCell (p := ⟨w.heap.size + 1, 0, none⟩) (Nat.le_succ _) (.string h.says)).setCell (p := ⟨w.heap.size + 1, 1, none⟩) (Nat.le_succ _) (.string h.pred)).setCell (p := ⟨w.heap.size + 1, 2, none⟩) (Nat.le_succ _) (.int .i64 h.n)).setCell (p := ⟨w.heap.size + 1, 3, none⟩) (Nat.le_succ _) (.bool h.a0.v)).setCell (p := ⟨w.heap.size + 1, 4, none⟩) (Nat.le_succ _) (.string h.a0.name)).setCell (p := ⟨w.heap.size + 1, 5, none⟩) (Nat.le_succ _) (.bool h.a1.v)).setCell (p := ⟨w.heap.size + 1, 6, none⟩) (Nat.le_succ _) (.string h.a1.name)).setCell (p := ⟨w.heap.size + 1, 7, none⟩) (Nat.le_succ _) (.bool h.a2.v)).setCell (p := ⟨w.heap.size + 1, 8, none⟩) (Nat.le_succ _) (.string h.a2.name)).setCell (p := ⟨w.heap.size + 1, 9, none⟩) (Nat.le_succ _) (.bool h.a3.v)).setCell (p := ⟨w.heap.size + 1, 10, none⟩) (Nat.le_succ _) (.string h.a3.name)).setCell (p := ⟨w.heap.size + 1, 11, none⟩) (Nat.le_succ _) (.slice ub un uc))
  go_wp2_with (fail)
  refine bodyPost_ret (v := .agg #[.string h.says, .string h.pred, .int .i64 h.n, .bool h.a0.v, .string h.a0.name, .bool h.a1.v, .string h.a1.name, .bool h.a2.v, .string h.a2.name, .bool h.a3.v, .string h.a3.name, .slice ub un uc]) (by simp [results, Tryd.results14, go_sem, r0, r1, r2, r3, r4, r5, r6, r7, r8, r9, r10, r11]) rfl ?_
  refine ⟨HB3.out, _, rfl, ?_⟩
  rcases HC.out with h | ⟨h0, g, G, cur, h1, h2, h3, h4⟩
  · exact Or.inl h
  · have h2 : W1.heap.size ≤ g := h2
    rw [HZ.out] at h2
    exact Or.inr ⟨h0, g, G, cur, h1, by omega, (HH.out g (by omega)).trans h3, h4⟩
end Go.Proofs.YtinbfakpjnnagaaDoor
