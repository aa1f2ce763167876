/-
  For every input the statement DesugarCalls returns true, and leaves its arguments as they were.
-/
import Derived.Test.YtinbfakpjnnagaaGreatDoorDCm3
import Derived.Test.YtinbfakpjnnagaaGreatDoorDCOpen
import Derived.SizedLaws
import Derived.Test.YtinbfakpjnnagaaGreatDoorDCLaw
import Derived.Test.YtinbfakpjnnagaaGreatDoorRows
import Derived.Test.YtinbfakpjnnagaaGreatDoorCards
import Derived.Test.YtinbfakpjnnagaaGreatDoorTie
import Derived.ProofKit
import Derived.LaidMore
import Derived.LaidHandle
import Derived.OpenShut
import Derived.Stop.Joined
import Derived.SevenTiedAt
set_option linter.unusedSimpArgs false
set_option linter.unusedVariables false
namespace Go.Proofs.YtinbfakpjnnagaaGreatDoor
open Go.RowKit Go.Vs Go.Vs.Ab Go.Vs.Sm
set_option maxRecDepth 100000
set_option maxHeartbeats 4000000
/-! ### names -/
theorem bin_bb (x y : Bool) : pureVal Tryz.prog (binOp .eql 4 (.bool x) (.bool y)) = some (.bool (x == y)) := by
  cases x <;> cases y <;> kernel_rfl
theorem r3n_does (a : Atm) (b : Bool) : Does Tryz.prog 53 [atA a, bA b] (freshA stC 9 1 (pnames a b)) := by
  have h4 := a.count_le
  have cK := count_does a
  refine does_of' Tryz.func53 rfl (by kernel_rfl) rfl Tryz.ntmps53 rfl rfl fun Q hQ => ?_
  repeat (first | refine tr_seq_k fun _ _ => ?_ | (refine tr_region ?_; simp only [go_sem, reduceCtorEq, Nat.reduceEqDiff, Nat.reduceLT, ↓reduceIte]) | refine k_of (by assumption) ?_ | refine tr_block ?_)
  refine tr_loop_k (σ := Nat) (fun i => [(1, bA b), (2, .ptr 0 0), (5, colA stC 0 (pnamesK a b i)), (6, iA i)]) (fun i => ⟨[⟨false, ([.c (.v (.string a.says)), .c (.v (.string a.pred)), .c (.v (.int .i64 a.n)), .c (.v (.bool a.a0.v)), .c (.v (.string a.a0.name)), .c (.v (.bool a.a1.v)), .c (.v (.string a.a1.name)), .c (.v (.bool a.a2.v)), .c (.v (.string a.a2.name)), .c (.v (.bool a.a3.v)), .c (.v (.string a.a3.name))] : List AV)⟩], colH 9 1 (pnamesK a b i)⟩)
    (fun i => i ≤ a.count) (fun i => a.count - i) 0 (Nat.zero_le _) ⟨rfl, rfl, rfl, rfl, trivial⟩ rfl ?_
  rintro i hi K hK
  by_cases hlt : i < a.count
  · have hi4 : i < 4 := by omega
    have q1 : decide ((i : Int) < (a.count : Nat)) = true := decide_eq_true (by omega)
    have ws := wrap_succ (show i ≤ 1000000000 by omega)
    have tl : (pnamesK a b i).length ≤ i := by
      clear hK
      have : ∀ i, (pnamesK a b i).length ≤ i := fun i => by
        induction i with
        | zero => exact Nat.le_refl _
        | succ i ih =>
          unfold pnamesK
          rw [List.length_append]
          split
          · rw [List.length_singleton]; omega
          · rw [List.length_nil]; omega
      exact this i
    repeat (first | refine tr_seq_k fun _ _ => ?_ | (refine tr_region ?_; simp only [go_sem, Nat.reduceEqDiff, Nat.reduceLT, Nat.reduceLeDiff, Nat.reduceAdd, ↓reduceIte]) | (refine call_of (cK) ?_ ?_; (first | rfl | simp only [go_sem, reduceCtorEq, Nat.reduceEqDiff, Nat.reduceLT, Nat.reduceLeDiff, Nat.reduceAdd, Nat.reduceMul, Nat.reduceSub, Nat.reduceBEq, ↓reduceIte, q1, shut_col]); simp only [go_sem, Nat.reduceEqDiff, Nat.reduceLT, ↓reduceIte, q1]) | refine k_of (by assumption) ?_)
    refine tr_cond rfl (fun ht => ?_) (fun hf => ?_)
    · repeat (first | refine tr_seq_k fun _ _ => ?_ | (refine tr_region ?_; simp only [go_sem, Nat.reduceEqDiff, Nat.reduceLT, ↓reduceIte]) | refine k_of (by assumption) ?_ | refine tr_block ?_ | (refine tr_skip ?_; try simp only [ex_seq]))
      refine tr_loop_k (σ := Nat) (fun k => [(1, bA b), (2, .ptr 0 0), (5, colA stC 0 (pnamesK a b i)), (6, iA i), (7, bA (pseen a i k)), (8, iA k)]) (fun _ => ⟨[⟨false, ([.c (.v (.string a.says)), .c (.v (.string a.pred)), .c (.v (.int .i64 a.n)), .c (.v (.bool a.a0.v)), .c (.v (.string a.a0.name)), .c (.v (.bool a.a1.v)), .c (.v (.string a.a1.name)), .c (.v (.bool a.a2.v)), .c (.v (.string a.a2.name)), .c (.v (.bool a.a3.v)), .c (.v (.string a.a3.name))] : List AV)⟩], colH 9 1 (pnamesK a b i)⟩)
        (fun k => k ≤ i) (fun k => i - k) 0 (Nat.zero_le _) ⟨rfl, rfl, rfl, rfl, by simp [pseen]; rfl, rfl, trivial⟩ rfl ?_
      rintro k hk K2 hK2
      by_cases hkl : k < i
      · have hk4 : k < 4 := by omega
        have q2 : decide ((k : Int) < (i : Int)) = true := decide_eq_true (by omega)
        have ws2 := wrap_succ (show k ≤ 1000000000 by omega)
        have on := pseen_next a i hk4
        have eT := fun x y => bin_eqT x y (a.arg k) (a.arg i)
        simp only [pv_bind] at eT
        cases h1 : pseen a i k with
        | true =>
          rw [h1, Bool.true_or] at on
          repeat (first | refine tr_seq_k fun _ _ => ?_ | (refine tr_region ?_; simp only [go_sem, Nat.reduceEqDiff, Nat.reduceLT, ↓reduceIte, q2]) | refine k_of (by assumption) ?_)
          refine tr_cond rfl (fun ht => ?_) (fun hf => ?_)
          · repeat (first | refine tr_seq_k fun _ _ => ?_ | (refine tr_region ?_; simp only [go_sem, Nat.reduceEqDiff, Nat.reduceLT, ↓reduceIte, ws2]) | (refine tr_drawC (id := 9) follows 10000 (by kernel_rfl) ?_; simp only [go_sem, List.getElem?_toArray, Nat.reduceEqDiff, Nat.reduceLT, ↓reduceIte]) | refine k_of (by assumption) ?_ | refine tr_block ?_ | (refine tr_skip ?_; try simp only [ex_seq]))
            exact hK2 (k + 1) _ _ hkl ⟨⟨rfl, rfl, rfl, rfl, by rw [on]; rfl, rfl, trivial⟩, Keep.refl _, by simp only [lowF, low_col]; rfl, rfl, Nat.le_refl _, Nat.le_refl _⟩ (by omega)
          · cases hf
        | false =>
          rw [h1, Bool.false_or] at on
          repeat (first | refine tr_seq_k fun _ _ => ?_ | (refine tr_region ?_; simp only [go_sem, Nat.reduceEqDiff, Nat.reduceLT, ↓reduceIte, q2]) | refine k_of (by assumption) ?_)
          refine tr_cond rfl (fun ht => ?_) (fun hf => ?_)
          · repeat (first | refine tr_seq_k fun _ _ => ?_ | (refine tr_region ?_; simp only [go_sem, Nat.reduceEqDiff, Nat.reduceLT, ↓reduceIte, ws2]) | (refine tr_drawC (id := 9) follows 10000 (by kernel_rfl) ?_; simp only [go_sem, List.getElem?_toArray, reduceCtorEq, Nat.reduceEqDiff, Nat.reduceLT, Nat.reduceAdd, ↓reduceIte, arrT hk4, arrT hi4, atD2 a hk4, atD2 a hi4, atLe hk4, atLe hi4, eT]) | refine k_of (by assumption) ?_ | refine tr_block ?_ | (refine tr_skip ?_; try simp only [ex_seq]))
            exact hK2 (k + 1) _ _ hkl ⟨⟨rfl, rfl, rfl, rfl, by rw [on]; rfl, rfl, trivial⟩, Keep.refl _, by simp only [lowF, low_col]; rfl, rfl, Nat.le_refl _, Nat.le_refl _⟩ (by omega)
          · cases hf
      · have q2 : decide ((k : Int) < (i : Int)) = false := decide_eq_false (by omega)
        obtain rfl : k = i := by omega
        cases h1 : pseen a k k with
        | true =>
          have on : pnamesK a b (k + 1) = pnamesK a b k := by
            show pnamesK a b k ++ _ = _
            rw [if_neg (fun e => by rw [h1] at e; cases e.2), List.append_nil]
          cases h2 : decide ((a.arg k).v = b)
          all_goals
            have hbb : ((a.arg k).v == b) = _ := h2
            repeat (first | refine tr_seq_k fun _ _ => ?_ | (refine tr_region ?_; simp only [go_sem, Nat.reduceEqDiff, Nat.reduceLT, ↓reduceIte, q2]) | refine k_of (by assumption) ?_)
            refine tr_cond rfl (fun ht => ?_) (fun hf => ?_)
            · cases ht
            · repeat (first | refine tr_seq_k fun _ _ => ?_ | (refine tr_region ?_; simp only [go_sem, List.getElem?_toArray, reduceCtorEq, Nat.reduceEqDiff, Nat.reduceLT, ↓reduceIte, arrT hi4, atV a hi4, hbb, bin_bb]) | refine k_of (by assumption) ?_ | (refine tr_exit ?_; try simp only [ex_seq_exit, ex_block_exit, ex_seq, ↓reduceIte]))
              refine tr_cond rfl (fun ht => ?_) (fun hf => ?_)
              · cases ht
              · repeat (first | (refine tr_region ?_; simp only [go_sem, Nat.reduceEqDiff, Nat.reduceLT, ↓reduceIte, ws]) | refine k_of (by assumption) ?_ | (refine tr_skip ?_; try simp only [ex_seq, ex_block]))
                exact hK (k + 1) _ _ hlt ⟨⟨rfl, rfl, by rw [on]; rfl, rfl, trivial⟩, by rw [on]; exact Keep.of (eh := []) (ew := []) rfl (by rw [List.append_nil]), by rw [on]; simp only [lowF, low_col]; rfl, rfl, Nat.le_refl _, Nat.zero_le _⟩ (by omega)
        | false =>
          cases h2 : ((a.arg k).v == b) with
          | false =>
            have on : pnamesK a b (k + 1) = pnamesK a b k := by
              show pnamesK a b k ++ _ = _
              rw [if_neg (fun e => by rw [e.1, beq_self_eq_true] at h2; cases h2), List.append_nil]
            repeat (first | refine tr_seq_k fun _ _ => ?_ | (refine tr_region ?_; simp only [go_sem, Nat.reduceEqDiff, Nat.reduceLT, ↓reduceIte, q2]) | refine k_of (by assumption) ?_)
            refine tr_cond rfl (fun ht => ?_) (fun hf => ?_)
            · cases ht
            · repeat (first | refine tr_seq_k fun _ _ => ?_ | (refine tr_region ?_; simp only [go_sem, List.getElem?_toArray, reduceCtorEq, Nat.reduceEqDiff, Nat.reduceLT, ↓reduceIte, arrT hi4, atV a hi4, h2, bin_bb]) | refine k_of (by assumption) ?_ | (refine tr_exit ?_; try simp only [ex_seq_exit, ex_block_exit, ex_seq, ↓reduceIte]))
              refine tr_cond rfl (fun ht => ?_) (fun hf => ?_)
              · cases ht
              · repeat (first | (refine tr_region ?_; simp only [go_sem, Nat.reduceEqDiff, Nat.reduceLT, ↓reduceIte, ws]) | refine k_of (by assumption) ?_ | (refine tr_skip ?_; try simp only [ex_seq, ex_block]))
                exact hK (k + 1) _ _ hlt ⟨⟨rfl, rfl, by rw [on]; rfl, rfl, trivial⟩, by rw [on]; exact Keep.of (eh := []) (ew := []) rfl (by rw [List.append_nil]), by rw [on]; simp only [lowF, low_col]; rfl, rfl, Nat.le_refl _, Nat.zero_le _⟩ (by omega)
          | true =>
            have on : pnamesK a b (k + 1) = pnamesK a b k ++ [(a.arg k).name] := by
              show pnamesK a b k ++ _ = _
              rw [if_pos ⟨by simpa using h2, h1⟩]
            have ap := fun hp => appS hp (pnamesK a b k) (a.arg k).name (by omega)
            rw [← on] at ap
            have b1 := build1T (a.arg k).name
            repeat (first | refine tr_seq_k fun _ _ => ?_ | (refine tr_region ?_; simp only [go_sem, Nat.reduceEqDiff, Nat.reduceLT, ↓reduceIte, q2]) | refine k_of (by assumption) ?_)
            refine tr_cond rfl (fun ht => ?_) (fun hf => ?_)
            · cases ht
            · repeat (first | refine tr_seq_k fun _ _ => ?_ | (refine tr_region ?_; simp only [go_sem, List.getElem?_toArray, reduceCtorEq, Nat.reduceEqDiff, Nat.reduceLT, ↓reduceIte, arrT hi4, atV a hi4, h2, bin_bb]) | refine k_of (by assumption) ?_ | (refine tr_exit ?_; try simp only [ex_seq_exit, ex_block_exit, ex_seq, ↓reduceIte]))
              refine tr_cond rfl (fun ht => ?_) (fun hf => ?_)
              · repeat (first | (refine tr_region ?_; simp only [go_sem, List.getElem?_toArray, reduceCtorEq, Nat.reduceEqDiff, Nat.reduceLT, ↓reduceIte, arrT hi4, atS a hi4, b1, one_max, ap, ws]) | refine k_of (by assumption) ?_)
                exact hK (k + 1) _ _ hlt ⟨⟨rfl, rfl, rfl, rfl, trivial⟩, Keep.of (eh := []) (ew := []) rfl (by rw [List.append_nil]), by simp only [lowF, low_col]; rfl, rfl, Nat.le_refl _, Nat.zero_le _⟩ (by omega)
              · cases hf
    · cases hf
  · have q1 : decide ((i : Int) < (a.count : Nat)) = false := decide_eq_false (by omega)
    obtain rfl : i = a.count := by omega
    repeat (first | refine tr_seq_k fun _ _ => ?_ | (refine tr_region ?_; simp only [go_sem, Nat.reduceEqDiff, Nat.reduceLT, Nat.reduceLeDiff, Nat.reduceAdd, ↓reduceIte]) | (refine call_of (cK) ?_ ?_; (first | rfl | simp only [go_sem, reduceCtorEq, Nat.reduceEqDiff, Nat.reduceLT, Nat.reduceLeDiff, Nat.reduceAdd, Nat.reduceMul, Nat.reduceSub, Nat.reduceBEq, ↓reduceIte, q1, shut_col]); simp only [go_sem, Nat.reduceEqDiff, Nat.reduceLT, ↓reduceIte, q1]) | refine k_of (by assumption) ?_)
    refine tr_cond rfl (fun ht => ?_) (fun hf => ?_)
    · cases ht
    · repeat (first | refine tr_seq_k fun _ _ => ?_ | (refine tr_region ?_; simp only [go_sem, Nat.reduceEqDiff, Nat.reduceLT, ↓reduceIte]) | refine k_of (by assumption) ?_ | (refine tr_exit ?_; try simp only [ex_seq_exit, ex_block_exit, ex_seq, ↓reduceIte]) | (refine tr_ret ?_; try simp only [ex_seq_ret, ex_block_ret]))
      refine (hQ _ _ [colA stC 0 (pnames a b)] ?_ (fun m => ret_col stC 9 1 _ _ m)).2 <;> simp only [go_sem, Nat.reduceEqDiff, ↓reduceIte, Tryz.f53]
      rfl
theorem r3cons_does (a : Atm) : Does Tryz.prog 27 [atA a] (fun m => (.c (slC stC (pnames a false).isEmpty (pnames a false)), m)) := by
  have c1 := (r3n_does a false).shut
  refine does_of' Tryz.func27 rfl (by kernel_rfl) rfl Tryz.ntmps27 rfl rfl fun Q hQ => ?_
  repeat (first | refine tr_seq_k fun _ _ => ?_ | (refine tr_region ?_; simp only [go_sem, reduceCtorEq, Nat.reduceEqDiff, Nat.reduceLT, Nat.reduceLeDiff, Nat.reduceAdd, ↓reduceIte]) | (refine call_of (c1) ?_ ?_; (first | rfl | simp only [go_sem, reduceCtorEq, Nat.reduceEqDiff, Nat.reduceLT, Nat.reduceLeDiff, Nat.reduceAdd, Nat.reduceMul, Nat.reduceSub, Nat.reduceBEq, ↓reduceIte, shut_col]); simp only [go_sem]) | refine k_of (by assumption) ?_ | (refine tr_ret ?_; try simp only [ex_seq_ret, ex_block_ret]))
  refine (hQ _ _ [.c (slC stC (pnames a false).isEmpty (pnames a false))] ?_ (fun m => rfl)).2 <;> simp only [go_sem, reduceCtorEq, Nat.reduceEqDiff, ↓reduceIte, Tryz.f27]
  rfl
/-! ### a text into sorted ones -/
def putB : List ByteArray → ByteArray → List ByteArray
  | [], s => [s]
  | x :: l, s => if blt x s = true then x :: putB l s else if x = s then x :: l else s :: x :: l
theorem putB_split {s : ByteArray} : ∀ {k : Nat} {l : List ByteArray}, k ≤ l.length → (∀ j (hj : j < l.length), j < k → blt l[j] s = true) → putB l s = l.take k ++ putB (l.drop k) s
  | 0, l, _, _ => rfl
  | k + 1, [], h, _ => by simp at h
  | k + 1, x :: l, h, hp => by
    have h0 := hp 0 (by simp) (by omega)
    have ih := putB_split (s := s) (k := k) (l := l) (by simpa using h) (fun j hj hk => hp (j + 1) (Nat.succ_lt_succ hj) (by omega))
    rw [putB, if_pos (by simpa using h0), ih]
    rfl
theorem putB_mem {s x : ByteArray} : ∀ {l : List ByteArray}, x ∈ putB l s ↔ x ∈ l ∨ x = s
  | [] => by simp [putB]
  | y :: l => by
    rw [putB]
    split
    · rw [List.mem_cons, putB_mem, List.mem_cons, or_assoc]
    · split
      · rename_i h
        subst h
        rw [List.mem_cons]
        constructor
        · exact Or.inl
        · rintro (h | h)
          · exact h
          · exact Or.inl h
      · rw [List.mem_cons, or_comm]
theorem putB_sorted {s : ByteArray} : ∀ {l : List ByteArray}, l.Pairwise (fun a b => blt a b = true) → (putB l s).Pairwise (fun a b => blt a b = true)
  | [], _ => List.pairwise_singleton _ _
  | y :: l, h => by
    obtain ⟨h1, h2⟩ := List.pairwise_cons.1 h
    rw [putB]
    split
    · rename_i hy
      refine List.pairwise_cons.2 ⟨fun z hz => ?_, putB_sorted h2⟩
      rcases putB_mem.1 hz with hz | rfl
      · exact h1 z hz
      · exact hy
    · rename_i hy
      split
      · exact h
      · rename_i hne
        have hsy : blt s y = true := by
          rcases blt_total y s with h | h | h
          · exact absurd h hy
          · exact absurd h hne
          · exact h
        refine List.pairwise_cons.2 ⟨fun z hz => ?_, h⟩
        rcases List.mem_cons.1 hz with rfl | hz
        · exact hsy
        · exact blt_trans hsy (h1 z hz)
theorem putB_len {s : ByteArray} : ∀ {l : List ByteArray}, (putB l s).length ≤ l.length + 1
  | [] => Nat.le_refl _
  | y :: l => by
    have := putB_len (s := s) (l := l)
    rw [putB]
    split
    · simp only [List.length_cons]; omega
    · split <;> simp only [List.length_cons] <;> omega
theorem blt_uniq : ∀ {a b : List ByteArray}, a.Pairwise (fun a b => blt a b = true) → b.Pairwise (fun a b => blt a b = true) → (∀ x, x ∈ a ↔ x ∈ b) → a = b
  | [], [], _, _, _ => rfl
  | [], y :: b, _, _, h => by have := (h y).2 List.mem_cons_self; cases this
  | x :: a, [], _, _, h => by have := (h x).1 List.mem_cons_self; cases this
  | x :: a, y :: b, ha, hb, h => by
    obtain ⟨a1, a2⟩ := List.pairwise_cons.1 ha
    obtain ⟨b1, b2⟩ := List.pairwise_cons.1 hb
    have e : x = y := by
      rcases List.mem_cons.1 ((h x).1 List.mem_cons_self) with e | hx
      · exact e
      · rcases List.mem_cons.1 ((h y).2 List.mem_cons_self) with e | hy
        · exact e.symm
        · have q1 := b1 x hx
          have q2 := a1 y hy
          rw [blt_asymm q1] at q2
          cases q2
    subst e
    congr 1
    refine blt_uniq a2 b2 fun z => ?_
    have := h z
    rw [List.mem_cons, List.mem_cons] at this
    constructor
    · intro hz
      rcases this.1 (Or.inr hz) with rfl | h2
      · have := a1 z hz
        rw [blt_irrefl] at this
        cases this
      · exact h2
    · intro hz
      rcases this.2 (Or.inr hz) with rfl | h2
      · have := b1 z hz
        rw [blt_irrefl] at this
        cases this
      · exact h2
/-! ### Put -/
theorem appSs (hp : List Blk) (l r : List ByteArray) (ex : Bool) (hl : l.length + r.length ≤ 1000000) : aAppend Tryz.prog ⟨hp, colH 9 1 l⟩ 22 (colA stC 0 l) (.c (slC stC ex r)) = some (colA stC 0 (l ++ r), ⟨hp, colH 9 1 (l ++ r)⟩) :=
  app_any (P := Tryz.prog) stC (size := 1) (bytes := 16) (fun _ => rfl) Tryz.underlying22 info_s (hp := hp) (l := l) (r := r) (ex := ex) (Nat.le_trans hl (by decide)) (by omega)
theorem uptoS {ex : Bool} {l : List ByteArray} {j : Nat} (hj : j ≤ l.length) : ∃ ex2, aSlice Tryz.prog 22 (.c (slC stC ex l)) none (some (j : Int)) none = some (.c (slC stC ex2 (l.take j))) := by
  by_cases h : j < l.length
  · exact ⟨false, sl_uptoF stC 1 (fun _ => rfl) Tryz.underlying22 sz9 h⟩
  · obtain rfl : j = l.length := by omega
    refine ⟨ex, ?_⟩
    have h1 : Nat.ble (l.length * 1) (l.flatMap stC).length = true := by
      rw [flat_length stC 1 (fun _ => rfl), Nat.ble_eq]
      exact Nat.le_refl _
    have h3 : slV (.c (slC stC ex l)) = some (l.length, l.flatMap stC) := rfl
    have h4 : bnds l.length none (some (l.length : Int)) none = some (0, l.length, none) := by
      unfold bnds
      simp [natI_nat]
    have h7 : Nat.beq l.length l.length = true := Nat.beq_refl _
    simp only [aSlice, Tryz.underlying22, h3, sz9, h4, h1, if_true, resl, h7, Nat.beq_refl, Bool.and_self, List.take_length]
theorem fromS {ex : Bool} {l : List ByteArray} {j : Nat} (hj : j ≤ l.length) : aSlice Tryz.prog 22 (.c (slC stC ex l)) (some (j : Int)) none none = some (.c (slC stC ex (l.drop j))) := by
  by_cases h : 0 < j
  · exact sl_fromE stC 1 (fun _ => rfl) Tryz.underlying22 sz9 h hj
  · obtain rfl : j = 0 := by omega
    have h1 : Nat.ble (l.length * 1) (l.flatMap stC).length = true := by
      rw [flat_length stC 1 (fun _ => rfl), Nat.ble_eq]
      exact Nat.le_refl _
    have h3 : slV (.c (slC stC ex l)) = some (l.length, l.flatMap stC) := rfl
    have h4 : bnds l.length (some ((0 : Nat) : Int)) none none = some (0, l.length, none) := by
      unfold bnds
      simp [show natI 0 = some 0 from rfl]
    have h7 : Nat.beq l.length l.length = true := Nat.beq_refl _
    simp only [aSlice, Tryz.underlying22, h3, sz9, h4, h1, if_true, resl, h7, Nat.beq_refl, Bool.and_self, List.drop_zero]
theorem putB_ne (l : List ByteArray) (s : ByteArray) : (putB l s).isEmpty = false := by
  cases l with
  | nil => rfl
  | cons x l =>
    rw [putB]
    split
    · rfl
    · split <;> rfl
theorem r13put_does (l : List ByteArray) (s : ByteArray) (hl : l.length ≤ 100000) : Does Tryz.prog 42 [.c (slC stC false l), sA s] (fun m => (.c (slC stC false (putB l s)), m)) := by
  obtain ⟨ex, hex⟩ : ∃ ex, ex = false := ⟨false, rfl⟩
  rw [← hex]
  obtain ⟨k0, hk0, hp0, he⟩ : ∃ k, k ≤ l.length ∧ (∀ j (hj : j < l.length), j < k → blt l[j] s = true) ∧ (∀ hk : k < l.length, blt l[k] s = false) := by
    clear hl
    induction l with
    | nil => exact ⟨0, Nat.le_refl _, fun j hj _ => absurd hj (Nat.not_lt_zero _), fun h => absurd h (Nat.not_lt_zero _)⟩
    | cons x l ih =>
      cases h : blt x s with
      | false => exact ⟨0, Nat.zero_le _, fun j _ hj => absurd hj (Nat.not_lt_zero _), fun _ => h⟩
      | true =>
        obtain ⟨k, h1, h2, h3⟩ := ih
        refine ⟨k + 1, Nat.succ_le_succ h1, fun j hj hjk => ?_, fun hk => h3 (Nat.lt_of_succ_lt_succ hk)⟩
        cases j with
        | zero => exact h
        | succ j => exact h2 j (Nat.lt_of_succ_lt_succ hj) (by omega)
  have hsp := putB_split hk0 hp0
  obtain ⟨f, hf1, hf2⟩ : ∃ f : Mm → AV × Mm, ((∃ h : k0 < l.length, l[k0] = s) → f = fun m => (.c (slC stC ex l), m)) ∧ ((¬ ∃ h : k0 < l.length, l[k0] = s) → f = freshA stC 9 1 (putB l s)) := by
    by_cases h : ∃ h : k0 < l.length, l[k0] = s
    · exact ⟨_, fun _ => rfl, fun g => absurd h g⟩
    · exact ⟨_, fun g => absurd g h, fun _ => rfl⟩
  suffices D : Does Tryz.prog 42 [.c (slC stC ex l), sA s] f by
    by_cases h : ∃ h : k0 < l.length, l[k0] = s
    · rw [hf1 h] at D
      obtain ⟨hk, heq⟩ := h
      have hdr : l.drop k0 = l[k0] :: l.drop (k0 + 1) := List.drop_eq_getElem_cons hk
      have hpu : putB l s = l := by
        rw [hsp, hdr, putB, if_neg (by rw [he hk]; decide), if_pos heq, ← hdr, List.take_append_drop]
      rw [hpu]
      exact D
    · rw [hf2 h] at D
      have := D.shut
      rw [putB_ne] at this
      rw [hex] at this ⊢
      exact this
  refine does_of' Tryz.func42 rfl (by kernel_rfl) rfl Tryz.ntmps42 rfl rfl fun Q hQ => ?_
  repeat (first | refine tr_seq_k fun _ _ => ?_ | (refine tr_region ?_; simp only [go_sem, reduceCtorEq, Nat.reduceEqDiff, Nat.reduceLT, ↓reduceIte]) | refine k_of (by assumption) ?_ | refine tr_block ?_)
  refine tr_loop_k (σ := Nat) (fun k => [(0, .c (slC stC ex l)), (1, sA s), (5, iA k)]) (fun _ => ⟨[], []⟩)
    (fun k => k ≤ k0) (fun k => k0 - k) 0 (Nat.zero_le _) ⟨rfl, rfl, rfl, trivial⟩ rfl ?_
  rintro k hk K hK
  by_cases hlt : k < k0
  · have hkl : k < l.length := by omega
    have q1 : decide ((k : Int) < (l.length : Nat)) = true := decide_eq_true (by omega)
    have ws := wrap_succ (show k ≤ 1000000000 by omega)
    have ix := idxS12 (ex := ex) hkl
    have hb := hp0 k hkl hlt
    repeat (first | refine tr_seq_k fun _ _ => ?_ | (refine tr_region ?_; simp only [go_sem, List.getElem?_toArray, reduceCtorEq, Nat.reduceEqDiff, Nat.reduceLT, ↓reduceIte, q1, ix, stC, bl_blt, hb]) | refine k_of (by assumption) ?_)
    refine tr_cond rfl (fun ht => ?_) (fun hf => ?_)
    · repeat (first | (refine tr_region ?_; simp only [go_sem, reduceCtorEq, Nat.reduceEqDiff, Nat.reduceLT, ↓reduceIte, ws]) | refine k_of (by assumption) ?_ | refine tr_block ?_ | (refine tr_skip ?_; try simp only [ex_seq]))
      exact hK (k + 1) _ _ hlt ⟨⟨rfl, rfl, rfl, trivial⟩, Keep.refl _, rfl, rfl, Nat.le_refl _, Nat.le_refl _⟩ (by omega)
    · cases hf
  · obtain rfl : k = k0 := by omega
    obtain ⟨e3, up⟩ := uptoS (ex := ex) hk0
    have fr := fromS (ex := ex) hk0
    have hlk : (l.take k).length = k := by rw [List.length_take]; omega
    have hld : (l.drop k).length = l.length - k := List.length_drop
    have a1 : ∀ hp, aAppend Tryz.prog ⟨hp, []⟩ 22 (.c (.sl true 0 [])) (.c (slC stC e3 (l.take k))) = some (colA stC 0 (l.take k), ⟨hp, colH 9 1 (l.take k)⟩) := fun hp => appSs hp [] (l.take k) e3 (by rw [List.length_nil]; omega)
    have a2 := fun hp => appS hp (l.take k) s (by omega)
    have a3 := fun hp => appSs hp (l.take k ++ [s]) (l.drop k) ex (by rw [List.length_append, List.length_singleton]; omega)
    have b1 := build1T s
    by_cases hkl : k < l.length
    · have q1 : decide ((k : Int) < (l.length : Nat)) = true := decide_eq_true (by omega)
      have ix := idxS12 (ex := ex) hkl
      have hb := he hkl
      have hdr : l.drop k = l[k] :: l.drop (k + 1) := List.drop_eq_getElem_cons hkl
      by_cases heq : l[k] = s
      · have hq : decide (l[k] = s) = true := decide_eq_true heq
        rw [hf1 ⟨hkl, heq⟩] at hQ
        repeat (first | refine tr_seq_k fun _ _ => ?_ | (refine tr_region ?_; simp only [go_sem, List.getElem?_toArray, reduceCtorEq, Nat.reduceEqDiff, Nat.reduceLT, ↓reduceIte, q1, ix, stC, bl_blt, hb]) | refine k_of (by assumption) ?_)
        refine tr_cond rfl (fun ht => ?_) (fun hf => ?_)
        · cases ht
        · repeat (first | refine tr_seq_k fun _ _ => ?_ | (refine tr_region ?_; simp only [go_sem, reduceCtorEq, Nat.reduceEqDiff, Nat.reduceLT, ↓reduceIte, q1, ix, stC, hq]) | refine k_of (by assumption) ?_ | (refine tr_exit ?_; try simp only [ex_seq_exit, ex_block_exit, ex_seq, ↓reduceIte]))
          refine tr_cond rfl (fun ht => ?_) (fun hf => ?_)
          · repeat (first | refine tr_seq_k fun _ _ => ?_ | (refine tr_region ?_; simp only [go_sem, reduceCtorEq, Nat.reduceEqDiff, Nat.reduceLT, ↓reduceIte]) | refine k_of (by assumption) ?_ | (refine tr_ret ?_; try simp only [ex_seq_ret]))
            refine (hQ _ _ [.c (slC stC ex l)] ?_ (fun m => rfl)).2 <;> simp only [go_sem, reduceCtorEq, Nat.reduceEqDiff, ↓reduceIte, Tryz.f42]
          · cases hf
      · have hpu : putB l s = (l.take k ++ [s]) ++ l.drop k := by
          rw [hsp]
          conv => lhs; rw [hdr, putB, if_neg (by rw [hb]; decide), if_neg heq]
          rw [← hdr, List.append_assoc]
          rfl
        have hq : decide (l[k] = s) = false := decide_eq_false heq
        rw [hf2 (fun h => heq h.2), hpu] at hQ
        repeat (first | refine tr_seq_k fun _ _ => ?_ | (refine tr_region ?_; simp only [go_sem, List.getElem?_toArray, reduceCtorEq, Nat.reduceEqDiff, Nat.reduceLT, ↓reduceIte, q1, ix, stC, bl_blt, hb]) | refine k_of (by assumption) ?_)
        refine tr_cond rfl (fun ht => ?_) (fun hf => ?_)
        · cases ht
        · repeat (first | refine tr_seq_k fun _ _ => ?_ | (refine tr_region ?_; simp only [go_sem, reduceCtorEq, Nat.reduceEqDiff, Nat.reduceLT, ↓reduceIte, q1, ix, stC, hq]) | refine k_of (by assumption) ?_ | (refine tr_exit ?_; try simp only [ex_seq_exit, ex_block_exit, ex_seq, ↓reduceIte]))
          refine tr_cond rfl (fun ht => ?_) (fun hf => ?_)
          · cases ht
          · repeat (first | refine tr_seq_k fun _ _ => ?_ | (refine tr_region ?_; simp only [go_sem, reduceCtorEq, Nat.reduceEqDiff, Nat.reduceLT, ↓reduceIte, build0S, zero_max, one_max, up, fr, a1, a2, b1, a3]) | refine k_of (by assumption) ?_ | (refine tr_skip ?_; try simp only [ex_seq]) | (refine tr_ret ?_; try simp only [ex_seq_ret, ex_block_ret]))
            refine (hQ _ _ [colA stC 0 ((l.take k ++ [s]) ++ l.drop k)] ?_ (fun m => ret_col stC 9 1 _ _ m)).2 <;> simp only [go_sem, reduceCtorEq, Nat.reduceEqDiff, ↓reduceIte, Tryz.f42]
    · have q1 : decide ((k : Int) < (l.length : Nat)) = false := decide_eq_false (by omega)
      have hpu : putB l s = (l.take k ++ [s]) ++ l.drop k := by
        rw [hsp, show l.drop k = [] from List.drop_eq_nil_of_le (by omega)]
        rw [List.append_nil]
        rfl
      rw [hf2 (fun h => hkl h.1), hpu] at hQ
      repeat (first | refine tr_seq_k fun _ _ => ?_ | (refine tr_region ?_; simp only [go_sem, List.getElem?_toArray, reduceCtorEq, Nat.reduceEqDiff, Nat.reduceLT, ↓reduceIte, q1]) | refine k_of (by assumption) ?_)
      refine tr_cond rfl (fun ht => ?_) (fun hf => ?_)
      · cases ht
      · repeat (first | refine tr_seq_k fun _ _ => ?_ | (refine tr_region ?_; simp only [go_sem, List.getElem?_toArray, reduceCtorEq, Nat.reduceEqDiff, Nat.reduceLT, ↓reduceIte, q1]) | refine k_of (by assumption) ?_ | (refine tr_exit ?_; try simp only [ex_seq_exit, ex_block_exit, ex_seq, ↓reduceIte]))
        refine tr_cond rfl (fun ht => ?_) (fun hf => ?_)
        · cases ht
        · repeat (first | refine tr_seq_k fun _ _ => ?_ | (refine tr_region ?_; simp only [go_sem, reduceCtorEq, Nat.reduceEqDiff, Nat.reduceLT, ↓reduceIte, build0S, zero_max, one_max, up, fr, a1, a2, b1, a3]) | refine k_of (by assumption) ?_ | (refine tr_skip ?_; try simp only [ex_seq]) | (refine tr_ret ?_; try simp only [ex_seq_ret, ex_block_ret]))
          refine (hQ _ _ [colA stC 0 ((l.take k ++ [s]) ++ l.drop k)] ?_ (fun m => ret_col stC 9 1 _ _ m)).2 <;> simp only [go_sem, reduceCtorEq, Nat.reduceEqDiff, ↓reduceIte, Tryz.f42]
/-! ### Consts -/
def ptK (V acc : List ByteArray) (k : Nat) : List ByteArray := (V.take k).foldl putB acc
theorem ptK_next {V acc : List ByteArray} {k : Nat} (h : k < V.length) : ptK V acc (k + 1) = putB (ptK V acc k) V[k] := by
  unfold ptK
  rw [List.take_succ_eq_append_getElem h, List.foldl_append]
  rfl
def ptL (L : List Atm) (i : Nat) : List ByteArray := (L.take i).foldl (fun acc a => (pnames a false).foldl putB acc) []
theorem ptL_next {L : List Atm} {i : Nat} (h : i < L.length) : ptL L (i + 1) = ptK (pnames L[i] false) (ptL L i) (pnames L[i] false).length := by
  unfold ptL ptK
  rw [List.take_succ_eq_append_getElem h, List.foldl_append, List.take_length]
  rfl
theorem ptF_mem {x : ByteArray} : ∀ (V : List ByteArray) {acc : List ByteArray}, x ∈ V.foldl putB acc ↔ x ∈ acc ∨ x ∈ V
  | [], acc => by simp
  | v :: V, acc => by rw [List.foldl_cons, ptF_mem V, putB_mem, List.mem_cons, or_assoc]
theorem ptF_sorted : ∀ (V : List ByteArray) {acc : List ByteArray}, acc.Pairwise (fun a b => blt a b = true) → (V.foldl putB acc).Pairwise (fun a b => blt a b = true)
  | [], acc, h => h
  | v :: V, acc, h => by rw [List.foldl_cons]; exact ptF_sorted V (putB_sorted h)
theorem ptF_len : ∀ (V : List ByteArray) {acc : List ByteArray}, (V.foldl putB acc).length ≤ acc.length + V.length
  | [], acc => by simp
  | v :: V, acc => by
    have h1 := ptF_len V (acc := putB acc v)
    have h2 := putB_len (s := v) (l := acc)
    rw [List.foldl_cons, List.length_cons]
    omega
theorem ptA_mem {x : ByteArray} : ∀ (L : List Atm) {acc : List ByteArray}, x ∈ L.foldl (fun acc a => (pnames a false).foldl putB acc) acc ↔ x ∈ acc ∨ ∃ a ∈ L, x ∈ pnames a false
  | [], acc => by simp
  | a :: L, acc => by
    rw [List.foldl_cons, ptA_mem L, ptF_mem, or_assoc]
    simp
theorem ptA_sorted : ∀ (L : List Atm) {acc : List ByteArray}, acc.Pairwise (fun a b => blt a b = true) → (L.foldl (fun acc a => (pnames a false).foldl putB acc) acc).Pairwise (fun a b => blt a b = true)
  | [], acc, h => h
  | a :: L, acc, h => by rw [List.foldl_cons]; exact ptA_sorted L (ptF_sorted _ h)
theorem ptA_len : ∀ (L : List Atm) {acc : List ByteArray}, (L.foldl (fun acc a => (pnames a false).foldl putB acc) acc).length ≤ acc.length + 4 * L.length
  | [], acc => by simp
  | a :: L, acc => by
    have h1 := ptA_len L (acc := (pnames a false).foldl putB acc)
    have h2 := ptF_len (pnames a false) (acc := acc)
    have h3 : (pnames a false).length ≤ 4 := Nat.le_trans (pnamesC_len a a.count) a.count_le
    rw [List.foldl_cons, List.length_cons]
    omega
theorem ptL_all (L : List Atm) : ptL L L.length = sortB (csAll L) := by
  unfold ptL
  rw [List.take_length]
  obtain ⟨g1, g2, _⟩ := sortB_facts (l := csAll L) (csF_nodup _ List.nodup_nil)
  refine blt_uniq (ptA_sorted L List.Pairwise.nil) g1 fun x => ?_
  rw [g2, mem_csAll, ptA_mem]
  simp
theorem tr_loose {R : MRel} [hR : RelOk R] {P : Program} {nt : Nat} {c : Code} {fr : Fr} {m : Mm} {Q : Ex → Fr → Mm → Prop} {s n : Nat} {cs : List CV} (hf : find fr s = some (.c (.sl true n cs))) (h : Tr R P nt c ((s, .c (.sl false n cs)) :: fr) m Q) : Tr R P nt c fr m Q := fun X W0 w a F M => by
  refine h X W0 w a ⟨F.size, F.defers, fun t c hc => ?_⟩ M
  unfold find at hc
  by_cases e : s = t
  · subst e
    rw [if_pos (Nat.beq_refl s)] at hc
    injection hc with hc
    subst hc
    obtain ⟨x, h1, h2⟩ := F.slot s _ hf
    refine ⟨x, h1, ?_⟩
    cases h2 with
    | c h2 =>
      cases h2 with
      | sl h3 h4 h5 h6 h7 h8 => exact .c (.sl h3 h4 h5 h6 (fun e => by cases e) h8)
  · rw [if_neg (by simpa using e)] at hc
    exact F.slot t c hc
theorem r13consts_does {p : Pol} (h : Lt13 p) : Does Tryz.prog 20 [poA p] (fun m => (.c (slC stC false (constsF p)), m)) := by
  have cC := (r13atoms_does h).shut
  have hll := atomsF_len h
  unfold constsF
  generalize atomsF p = L at *
  have hpl : ∀ i, (ptL L i).length ≤ 4 * L.length := fun i => by
    have := ptA_len (L.take i) (acc := [])
    rw [List.length_nil, List.length_take] at this
    unfold ptL
    omega
  refine does_of' Tryz.func20 rfl (by kernel_rfl) rfl Tryz.ntmps20 rfl rfl fun Q hQ => ?_
  repeat (first | refine tr_seq_k fun _ _ => ?_ | (refine tr_region ?_; simp only [go_sem, reduceCtorEq, Nat.reduceEqDiff, Nat.reduceLT, Nat.reduceLeDiff, Nat.reduceAdd, ↓reduceIte]) | (refine call_of (cC) ?_ ?_; (first | rfl | simp only [go_sem, reduceCtorEq, Nat.reduceEqDiff, Nat.reduceLT, Nat.reduceLeDiff, Nat.reduceAdd, Nat.reduceMul, Nat.reduceSub, Nat.reduceBEq, ↓reduceIte, shut_col]); simp only [go_sem]) | refine k_of (by assumption) ?_ | refine tr_block ?_)
  refine tr_loose (s := 3) (n := 0) (cs := []) rfl ?_
  refine tr_loop_k (σ := Nat) (fun i => [(3, .c (slC stC false (ptL L i))), (4, .c (slC atC L.isEmpty L)), (5, iA i)]) (fun i => ⟨[⟨false, [.c (slC stC p.e1 p.prin), .c (slC prC p.e2 p.preds), .c (slC clC p.e3 p.clears), iA p.quota, iA p.budget, .c (slC ruC p.e4 p.rules), .c (slC grC p.e5 p.grants)]⟩], []⟩)
    (fun i => i ≤ L.length) (fun i => L.length - i) 0 (Nat.zero_le _) ⟨rfl, rfl, rfl, trivial⟩ rfl ?_
  rintro i hi K hK
  by_cases hlt : i < L.length
  · have q1 : decide ((i : Int) < (L.length : Nat)) = true := decide_eq_true (by omega)
    have ws := wrap_succ (show i ≤ 1000000000 by omega)
    have ix := idxA12 (ex := L.isEmpty) hlt
    have on := ptL_next hlt
    have hpi := hpl i
    generalize L[i] = a at *
    have cV := r3cons_does a
    have hV : (pnames a false).length ≤ 4 := Nat.le_trans (pnamesC_len a a.count) a.count_le
    generalize pnames a false = V at *
    repeat (first | refine tr_seq_k fun _ _ => ?_ | (refine tr_region ?_; simp only [go_sem, List.getElem?_toArray, Nat.reduceEqDiff, Nat.reduceLT, ↓reduceIte, q1]) | refine k_of (by assumption) ?_)
    refine tr_cond rfl (fun ht => ?_) (fun hf => ?_)
    · repeat (first | refine tr_seq_k fun _ _ => ?_ | (refine tr_region ?_; simp only [go_sem, Nat.reduceEqDiff, Nat.reduceLT, Nat.reduceLeDiff, ↓reduceIte, ix, atC]) | (refine call_of (cV) ?_ ?_; (first | rfl | simp only [go_sem, reduceCtorEq, Nat.reduceEqDiff, Nat.reduceLT, Nat.reduceLeDiff, Nat.reduceAdd, Nat.reduceMul, Nat.reduceSub, Nat.reduceBEq, ↓reduceIte, ix, atC, shut_col]); simp only [go_sem]) | refine k_of (by assumption) ?_ | refine tr_block ?_ | (refine tr_skip ?_; try simp only [ex_seq]))
      refine tr_loop_k (σ := Nat) (fun k => [(3, .c (slC stC false (ptK V (ptL L i) k))), (4, .c (slC atC L.isEmpty L)), (5, iA i), (6, .c (slC stC V.isEmpty V)), (7, iA k)]) (fun _ => ⟨[⟨false, [.c (slC stC p.e1 p.prin), .c (slC prC p.e2 p.preds), .c (slC clC p.e3 p.clears), iA p.quota, iA p.budget, .c (slC ruC p.e4 p.rules), .c (slC grC p.e5 p.grants)]⟩], []⟩)
        (fun k => k ≤ V.length) (fun k => V.length - k) 0 (Nat.zero_le _) ⟨rfl, rfl, rfl, rfl, rfl, trivial⟩ rfl ?_
      rintro k hk K2 hK2
      by_cases hkl : k < V.length
      · have q2 : decide ((k : Int) < (V.length : Nat)) = true := decide_eq_true (by omega)
        have ws2 := wrap_succ (show k ≤ 1000000000 by omega)
        have ixs := idxS12 (ex := V.isEmpty) hkl
        have hkl2 : (ptK V (ptL L i) k).length ≤ 100000 := by
          have := ptF_len (V.take k) (acc := ptL L i)
          rw [List.length_take] at this
          unfold ptK
          omega
        have cP := r13put_does (ptK V (ptL L i) k) V[k] hkl2
        rw [← ptK_next hkl] at cP
        repeat (first | refine tr_seq_k fun _ _ => ?_ | (refine tr_region ?_; simp only [go_sem, List.getElem?_toArray, Nat.reduceEqDiff, Nat.reduceLT, ↓reduceIte, q2]) | refine k_of (by assumption) ?_)
        refine tr_cond rfl (fun ht => ?_) (fun hf => ?_)
        · repeat (first | refine tr_seq_k fun _ _ => ?_ | (refine tr_region ?_; simp only [go_sem, Nat.reduceEqDiff, Nat.reduceLT, ↓reduceIte, ixs, stC, ws2]) | (refine call_of (cP) ?_ ?_; (first | rfl | simp only [go_sem, reduceCtorEq, Nat.reduceEqDiff, Nat.reduceLT, Nat.reduceLeDiff, Nat.reduceAdd, Nat.reduceMul, Nat.reduceSub, Nat.reduceBEq, ↓reduceIte, ixs, stC, ws2, shut_col]); simp only [go_sem]) | refine k_of (by assumption) ?_ | refine tr_block ?_ | (refine tr_skip ?_; try simp only [ex_seq]))
          exact hK2 (k + 1) _ _ hkl ⟨⟨rfl, rfl, rfl, rfl, rfl, trivial⟩, Keep.refl _, rfl, rfl, Nat.le_refl _, Nat.le_refl _⟩ (by omega)
        · cases hf
      · have q2 : decide ((k : Int) < (V.length : Nat)) = false := decide_eq_false (by omega)
        obtain rfl : k = V.length := by omega
        repeat (first | refine tr_seq_k fun _ _ => ?_ | (refine tr_region ?_; simp only [go_sem, List.getElem?_toArray, Nat.reduceEqDiff, Nat.reduceLT, ↓reduceIte, q2]) | refine k_of (by assumption) ?_)
        refine tr_cond rfl (fun ht => ?_) (fun hf => ?_)
        · cases ht
        · repeat (first | (refine tr_region ?_; simp only [go_sem, Nat.reduceEqDiff, Nat.reduceLT, ↓reduceIte, ws]) | refine k_of (by assumption) ?_ | (refine tr_exit ?_; try simp only [ex_seq_exit, ex_block_exit, ex_seq, ex_block, ↓reduceIte]))
          exact hK (i + 1) _ _ hlt ⟨⟨by rw [on]; rfl, rfl, rfl, trivial⟩, Keep.refl _, rfl, rfl, Nat.le_refl _, Nat.le_refl _⟩ (by omega)
    · cases hf
  · have q1 : decide ((i : Int) < (L.length : Nat)) = false := decide_eq_false (by omega)
    obtain rfl : i = L.length := by omega
    rw [ptL_all]
    repeat (first | refine tr_seq_k fun _ _ => ?_ | (refine tr_region ?_; simp only [go_sem, List.getElem?_toArray, Nat.reduceEqDiff, Nat.reduceLT, ↓reduceIte, q1]) | refine k_of (by assumption) ?_)
    refine tr_cond rfl (fun ht => ?_) (fun hf => ?_)
    · cases ht
    · repeat (first | refine tr_seq_k fun _ _ => ?_ | (refine tr_region ?_; simp only [go_sem, Nat.reduceEqDiff, Nat.reduceLT, ↓reduceIte]) | refine k_of (by assumption) ?_ | (refine tr_exit ?_; try simp only [ex_seq_exit, ex_block_exit, ex_seq, ↓reduceIte]) | (refine tr_ret ?_; try simp only [ex_seq_ret, ex_block_ret]))
      refine (hQ _ _ [.c (slC stC false (sortB (csAll L)))] ?_ (fun m => rfl)).2 <;> simp only [go_sem, Nat.reduceEqDiff, ↓reduceIte, Tryz.f20]
end Go.Proofs.YtinbfakpjnnagaaGreatDoor
namespace Go.Proofs.YtinbfakpjnnagaaGreatDoor
open Go.RowKit Go.Vs Go.Vs.Ab Go.Vs.Sm
set_option maxRecDepth 100000
set_option maxHeartbeats 4000000
theorem r13text_does (c : Cls) (h1 : AtSz c.head) (h2 : ∀ a ∈ c.body, AtSz a) (h3 : c.body.length ≤ 400) : Does Tryz.prog 22 [clsA c] (fun m => (sA (clText c.head c.body), m)) := by
  obtain ⟨h, ex, b⟩ := c
  dsimp only at h1 h2 h3 ⊢
  have cH := r3text_does h h1
  have hh := ptext_size h1
  have hB : ∀ k, k ≤ b.length → (pbodyK b k).size ≤ 400 * 10000010 := fun k hk => Nat.le_trans (pbodyK_size h2 k) (Nat.mul_le_mul_right _ (by omega))
  have e0 : ptext h = ptext h ++ pbodyK b 0 := by
    show _ = ptext h ++ ⟨#[]⟩
    apply ByteArray.ext
    simp
  have hC : clText h b = ptext h ++ pbodyK b b.length := rfl
  rw [hC]
  clear hC
  refine does_of' Tryz.func22 rfl (by kernel_rfl) rfl Tryz.ntmps22 rfl rfl fun Q hQ => ?_
  repeat (first | refine tr_seq_k fun _ _ => ?_ | (refine tr_region ?_; simp only [go_sem, List.getElem?_toArray, reduceCtorEq, Nat.reduceEqDiff, Nat.reduceLT, Nat.reduceLeDiff, Nat.reduceAdd, ↓reduceIte, clsC]) | (refine call_of (cH) ?_ ?_; (first | rfl | simp only [go_sem, reduceCtorEq, Nat.reduceEqDiff, Nat.reduceLT, Nat.reduceLeDiff, Nat.reduceAdd, Nat.reduceMul, Nat.reduceSub, Nat.reduceBEq, ↓reduceIte, clsC, shut_col]); simp only [go_sem]) | refine k_of (by assumption) ?_ | refine tr_block ?_)
  refine tr_loop_k (σ := Nat) (fun k => [(1, .ptr 0 0), (3, sA (ptext h ++ pbodyK b k)), (4, iA k)]) (fun _ => ⟨[⟨false, ([.c (.v (.string h.says)), .c (.v (.string h.pred)), .c (.v (.int .i64 h.n)), .c (.v (.bool h.a0.v)), .c (.v (.string h.a0.name)), .c (.v (.bool h.a1.v)), .c (.v (.string h.a1.name)), .c (.v (.bool h.a2.v)), .c (.v (.string h.a2.name)), .c (.v (.bool h.a3.v)), .c (.v (.string h.a3.name))] : List AV) ++ [.c (slC atC ex b)]⟩], []⟩)
    (fun k => k ≤ b.length) (fun k => b.length - k) 0 (Nat.zero_le _) ⟨rfl, by rw [← e0]; rfl, rfl, trivial⟩ rfl ?_
  rintro k hk K hK
  by_cases hlt : k < b.length
  · have q1 : decide ((k : Int) < (b.length : Nat)) = true := decide_eq_true (by omega)
    have ws := wrap_succ (show k ≤ 1000000000 by omega)
    have ix := idxA12 (ex := ex) hlt
    have cT := r3text_does b[k] (h2 _ (List.getElem_mem hlt))
    have ts := ptext_size (h2 _ (List.getElem_mem hlt))
    have on := pbodyK_next hlt
    have hb := hB k hk
    generalize b[k] = x at *
    have z1 : tIf.size = 4 := rfl
    have z2 : tComma.size = 2 := rfl
    by_cases hk0 : k = 0
    · have q2 : ((k : Int) == 0) = true := by rw [beq_iff_eq]; omega
      rw [if_pos hk0] at on
      have on' : ptext h ++ pbodyK b (k + 1) = ((ptext h ++ pbodyK b k) ++ tIf) ++ ptext x := by rw [on]; simp only [ByteArray.append_assoc]
      have s1 := sadd (a := ptext h ++ pbodyK b k) (b := tIf) (n := 6000000000) (by rw [ByteArray.size_append]; omega) (by decide)
      have s2 := sadd (a := (ptext h ++ pbodyK b k) ++ tIf) (b := ptext x) (n := 6000000000) (by simp only [ByteArray.size_append]; omega) (by decide)
      rw [← on'] at s2
      repeat (first | refine tr_seq_k fun _ _ => ?_ | (refine tr_region ?_; simp only [go_sem, List.getElem?_toArray, reduceCtorEq, Nat.reduceEqDiff, Nat.reduceLT, ↓reduceIte, q1]) | refine k_of (by assumption) ?_)
      refine tr_cond rfl (fun ht => ?_) (fun hf => ?_)
      · repeat (first | refine tr_seq_k fun _ _ => ?_ | (refine tr_region ?_; simp only [go_sem, Nat.reduceEqDiff, Nat.reduceLT, ↓reduceIte, q2]) | refine k_of (by assumption) ?_ | refine tr_block ?_ | (refine tr_skip ?_; try simp only [ex_seq]))
        refine tr_cond rfl (fun ht => ?_) (fun hf => ?_)
        · repeat (first | (refine tr_region ?_; simp only [go_sem, List.getElem?_toArray, reduceCtorEq, Nat.reduceEqDiff, Nat.reduceLT, Nat.reduceLeDiff, ↓reduceIte, s1, ix, atC, ws]) | (refine call_of (cT) ?_ ?_; (first | rfl | simp only [go_sem, reduceCtorEq, Nat.reduceEqDiff, Nat.reduceLT, Nat.reduceLeDiff, Nat.reduceAdd, Nat.reduceMul, Nat.reduceSub, Nat.reduceBEq, ↓reduceIte, s1, ix, atC, s2, ws, shut_col]); simp only [go_sem, Nat.reduceEqDiff, Nat.reduceLT, ↓reduceIte, s2]) | refine k_of (by assumption) ?_)
          exact hK (k + 1) _ _ hlt ⟨⟨rfl, rfl, rfl, trivial⟩, Keep.refl _, rfl, rfl, Nat.le_refl _, Nat.le_refl _⟩ (by omega)
        · cases hf
      · cases hf
    · have q2 : ((k : Int) == 0) = false := by rw [beq_eq_false_iff_ne]; omega
      rw [if_neg hk0] at on
      have on' : ptext h ++ pbodyK b (k + 1) = ((ptext h ++ pbodyK b k) ++ tComma) ++ ptext x := by rw [on]; simp only [ByteArray.append_assoc]
      have s1 := sadd (a := ptext h ++ pbodyK b k) (b := tComma) (n := 6000000000) (by rw [ByteArray.size_append]; omega) (by decide)
      have s2 := sadd (a := (ptext h ++ pbodyK b k) ++ tComma) (b := ptext x) (n := 6000000000) (by simp only [ByteArray.size_append]; omega) (by decide)
      rw [← on'] at s2
      repeat (first | refine tr_seq_k fun _ _ => ?_ | (refine tr_region ?_; simp only [go_sem, List.getElem?_toArray, reduceCtorEq, Nat.reduceEqDiff, Nat.reduceLT, ↓reduceIte, q1]) | refine k_of (by assumption) ?_)
      refine tr_cond rfl (fun ht => ?_) (fun hf => ?_)
      · repeat (first | refine tr_seq_k fun _ _ => ?_ | (refine tr_region ?_; simp only [go_sem, Nat.reduceEqDiff, Nat.reduceLT, ↓reduceIte, q2]) | refine k_of (by assumption) ?_ | refine tr_block ?_ | (refine tr_skip ?_; try simp only [ex_seq]))
        refine tr_cond rfl (fun ht => ?_) (fun hf => ?_)
        · cases ht
        · repeat (first | (refine tr_region ?_; simp only [go_sem, List.getElem?_toArray, reduceCtorEq, Nat.reduceEqDiff, Nat.reduceLT, Nat.reduceLeDiff, ↓reduceIte, s1, ix, atC, ws]) | (refine call_of (cT) ?_ ?_; (first | rfl | simp only [go_sem, reduceCtorEq, Nat.reduceEqDiff, Nat.reduceLT, Nat.reduceLeDiff, Nat.reduceAdd, Nat.reduceMul, Nat.reduceSub, Nat.reduceBEq, ↓reduceIte, s1, ix, atC, s2, ws, shut_col]); simp only [go_sem, Nat.reduceEqDiff, Nat.reduceLT, ↓reduceIte, s2]) | refine k_of (by assumption) ?_)
          exact hK (k + 1) _ _ hlt ⟨⟨rfl, rfl, rfl, trivial⟩, Keep.refl _, rfl, rfl, Nat.le_refl _, Nat.le_refl _⟩ (by omega)
      · cases hf
  · have q1 : decide ((k : Int) < (b.length : Nat)) = false := decide_eq_false (by omega)
    obtain rfl : k = b.length := by omega
    repeat (first | refine tr_seq_k fun _ _ => ?_ | (refine tr_region ?_; simp only [go_sem, List.getElem?_toArray, reduceCtorEq, Nat.reduceEqDiff, Nat.reduceLT, ↓reduceIte, q1]) | refine k_of (by assumption) ?_)
    refine tr_cond rfl (fun ht => ?_) (fun hf => ?_)
    · cases ht
    · repeat (first | refine tr_seq_k fun _ _ => ?_ | (refine tr_region ?_; simp only [go_sem, Nat.reduceEqDiff, Nat.reduceLT, ↓reduceIte]) | refine k_of (by assumption) ?_ | (refine tr_exit ?_; try simp only [ex_seq_exit, ex_block_exit, ex_seq, ↓reduceIte]) | (refine tr_ret ?_; try simp only [ex_seq_ret, ex_block_ret]))
      refine (hQ _ _ [sA (ptext h ++ pbodyK b b.length)] ?_ (fun m => rfl)).2 <;> simp only [go_sem, Nat.reduceEqDiff, ↓reduceIte, Tryz.f22]
theorem sameRule13_does (a : Atm) (x : List Atm) (ex ex2 : Bool) (hl : x.length ≤ 1000000) : Does Tryz.prog 11 [atA a, atA a, .c (slC atC ex x), .c (slC atC ex2 x)] (fun m => (bA true, m)) := by
  have e := fun u v => bin_eqA' u v a a
  simp only [pv_bind, decide_true] at e
  have cA := sameA_does x x ex ex2 hl
  rw [decide_eq_true rfl] at cA
  refine does_of' Tryz.func11 rfl (by kernel_rfl) rfl Tryz.ntmps11 rfl rfl fun Q hQ => ?_
  repeat (first | refine tr_seq_k fun _ _ => ?_ | (refine tr_region ?_; simp only [go_sem, List.getElem?_toArray, reduceCtorEq, Nat.reduceEqDiff, Nat.reduceLT, Nat.reduceLeDiff, Nat.reduceAdd, ↓reduceIte, e]) | (refine call_of (cA) ?_ ?_; (first | rfl | simp only [go_sem, reduceCtorEq, Nat.reduceEqDiff, Nat.reduceLT, Nat.reduceLeDiff, Nat.reduceAdd, Nat.reduceMul, Nat.reduceSub, Nat.reduceBEq, ↓reduceIte, e, shut_col]); simp only [go_sem]) | refine k_of (by assumption) ?_ | (refine tr_ret ?_; try simp only [ex_seq_ret, ex_block_ret]))
  refine (hQ _ _ [bA true] ?_ (fun m => rfl)).2 <;> simp only [go_sem, reduceCtorEq, Nat.reduceEqDiff, ↓reduceIte, Tryz.f11]
theorem sameCl_does (a b : List Cls) (ex ex2 : Bool) (hl : a.length ≤ 1000000) (hs : ∀ c ∈ a, c.body.length ≤ 1000000) (h : a.map (fun c => (c.head, c.body)) = b.map (fun c => (c.head, c.body))) : Does Tryz.prog 12 [.c (slC clsC ex a), .c (slC clsC ex2 b)] (fun m => (bA true, m)) := by
  have hlen : a.length = b.length := by
    have := congrArg List.length h
    rwa [List.length_map, List.length_map] at this
  have hn : decide ((a.length : Int) = (b.length : Nat)) = true := decide_eq_true (by omega)
  have hne : ((a.length : Int) != (b.length : Nat)) = false := by rw [bne_eq_false_iff_eq]; omega
  refine does_of' Tryz.func12 rfl (by kernel_rfl) rfl Tryz.ntmps12 rfl rfl fun Q hQ => ?_
  repeat (first | refine tr_seq_k fun _ _ => ?_ | (refine tr_region ?_; simp only [go_sem, List.getElem?_toArray, reduceCtorEq, Nat.reduceEqDiff, Nat.reduceLT, ↓reduceIte, hne]) | refine k_of (by assumption) ?_)
  refine tr_cond rfl (fun ht => ?_) (fun hf => ?_)
  · cases ht
  repeat (first | refine tr_seq_k fun _ _ => ?_ | (refine tr_region ?_; simp only [go_sem, reduceCtorEq, Nat.reduceEqDiff, Nat.reduceLT, ↓reduceIte]) | refine k_of (by assumption) ?_ | refine tr_block ?_ | (refine tr_skip ?_; try simp only [ex_seq]))
  refine tr_loop_k (σ := Nat) (fun k => [(0, .c (slC clsC ex a)), (1, .c (slC clsC ex2 b)), (5, iA k)]) (fun _ => ⟨[], []⟩)
    (fun k => k ≤ a.length) (fun k => a.length - k) 0 (Nat.zero_le _) ⟨rfl, rfl, rfl, trivial⟩ rfl ?_
  rintro k hk K hK
  by_cases hlt : k < a.length
  · have q1 : decide ((k : Int) < (a.length : Nat)) = true := decide_eq_true (by omega)
    have ws := wrap_succ (show k ≤ 1000000000 by omega)
    have hlb : k < b.length := by omega
    have i1 := idxCl (ex := ex) hlt
    have i2 := idxCl (ex := ex2) hlb
    have hsm : (fun c : Cls => (c.head, c.body)) a[k] = (fun c : Cls => (c.head, c.body)) b[k] := by
      have := congrArg (fun l => l[k]?) h
      simp only [List.getElem?_map, List.getElem?_eq_getElem hlt, List.getElem?_eq_getElem hlb, Option.map_some, Option.some.injEq] at this
      exact this
    have hbl := hs _ (List.getElem_mem hlt)
    generalize a[k] = x at *
    generalize b[k] = y at *
    obtain ⟨xh, xe, xb⟩ := x
    obtain ⟨yh, ye, yb⟩ := y
    obtain ⟨rfl, rfl⟩ : xh = yh ∧ xb = yb := by simpa using hsm
    have cS := sameRule13_does xh xb xe ye hbl
    repeat (first | refine tr_seq_k fun _ _ => ?_ | (refine tr_region ?_; simp only [go_sem, List.getElem?_toArray, reduceCtorEq, Nat.reduceEqDiff, Nat.reduceLT, ↓reduceIte, q1]) | refine k_of (by assumption) ?_)
    refine tr_cond rfl (fun ht => ?_) (fun hf => ?_)
    · repeat (first | refine tr_seq_k fun _ _ => ?_ | (refine tr_draw (id := 6) follows 10000 [20] [0, 1, 2, 3, 4, 5, 6, 7, 8, 9, 10, 11, 12, 13, 14, 15, 16, 17, 18, 19, 20, 21] (by kernel_rfl) ?_; simp only [go_sem, List.getElem?_toArray, reduceCtorEq, Nat.reduceEqDiff, Nat.reduceLT, Nat.reduceLeDiff, ↓reduceIte, i1, i2, clsC]) | (refine call_of (cS) ?_ ?_; (first | rfl | simp only [go_sem, reduceCtorEq, Nat.reduceEqDiff, Nat.reduceLT, Nat.reduceLeDiff, Nat.reduceAdd, Nat.reduceMul, Nat.reduceSub, Nat.reduceBEq, ↓reduceIte, i1, i2, clsC, shut_col]); simp only [go_sem, reduceCtorEq, Nat.reduceEqDiff, Nat.reduceLT, ↓reduceIte, Bool.true_or]) | refine k_of (by assumption) ?_ | refine tr_block ?_ | (refine tr_skip ?_; try simp only [ex_seq]))
      refine tr_cond rfl (fun ht => ?_) (fun hf => ?_)
      · cases ht
      · repeat (first | (refine tr_region ?_; simp only [go_sem, reduceCtorEq, Nat.reduceEqDiff, Nat.reduceLT, ↓reduceIte, ws]) | refine k_of (by assumption) ?_ | (refine tr_skip ?_; try simp only [ex_seq, ex_block]))
        exact hK (k + 1) _ _ hlt ⟨⟨rfl, rfl, rfl, trivial⟩, Keep.refl _, rfl, rfl, Nat.le_refl _, Nat.le_refl _⟩ (by omega)
    · cases hf
  · have q1 : decide ((k : Int) < (a.length : Nat)) = false := decide_eq_false (by omega)
    repeat (first | refine tr_seq_k fun _ _ => ?_ | (refine tr_region ?_; simp only [go_sem, List.getElem?_toArray, reduceCtorEq, Nat.reduceEqDiff, Nat.reduceLT, ↓reduceIte, q1]) | refine k_of (by assumption) ?_)
    refine tr_cond rfl (fun ht => ?_) (fun hf => ?_)
    · cases ht
    · repeat (first | refine tr_seq_k fun _ _ => ?_ | (refine tr_region ?_; simp only [go_sem, reduceCtorEq, Nat.reduceEqDiff, Nat.reduceLT, ↓reduceIte]) | refine k_of (by assumption) ?_ | (refine tr_exit ?_; try simp only [ex_seq_exit, ex_block_exit, ex_seq, ↓reduceIte]) | (refine tr_ret ?_; try simp only [ex_seq_ret, ex_block_ret]))
      refine (hQ _ _ [bA true] ?_ (fun m => rfl)).2 <;> simp only [go_sem, reduceCtorEq, Nat.reduceEqDiff, ↓reduceIte, Tryz.f12]
end Go.Proofs.YtinbfakpjnnagaaGreatDoor
namespace Go.Proofs.YtinbfakpjnnagaaGreatDoor
open Go.RowKit Go.Vs Go.Vs.Ab Go.Vs.Sm
set_option maxRecDepth 100000
set_option maxHeartbeats 8000000
theorem tr_drawX2 {P : Program} {m : Mm} {R : MRel} [hR : RelOk R] {nt : Nat} {fr : Fr} {Q : Ex → Fr → Mm → Prop} (hm : P.follows .mixedOrders = true) {id : Nat} {l : List Oper} (t : OT) (hB : treeB l t = true) (frC frD : Fr) (mC mD : Mm)
    (h : OrdX P nt l.toArray t fr m (fun fr' m' => (SubF frC fr' ∧ m' = mC) ∨ (SubF frD fr' ∧ m' = mD))) (hQ : Q .nrm frC mC) (hQ2 : Q .nrm frD mD) : Tr R P nt (.region id l.toArray true) fr m Q := fun X W0 w ac F M => by
  unfold treeB at hB
  simp only [Bool.and_eq_true] at hB
  obtain ⟨hsel, hB⟩ := hB
  refine wp_mono (wp_region_any (Q := NoP fun e a' w' => ∃ ex fr' m' X', e = Ex.out ex ∧ Q ex fr' m' ∧ R W0.heap.size X X' ∧ FR X' nt fr' a' ∧ MR X' W0 m' w') hm ?_) NoP.le
  have := (ordX_wp (P := P) (W0 := W0) (md := .any) (nt := nt) (ops := l.toArray) (Q := fun e a' w' => ∃ ex fr' m' X', e = Ex.out ex ∧ Q ex fr' m' ∧ R W0.heap.size X X' ∧ FR X' nt fr' a' ∧ MR X' W0 m' w') hsel t).1 (n := l.length) (listed := Array.replicate l.length false)
    hB F M.drew h (fun fr' m' a' w' X' k0 k1 k2 k3 => by
      rcases k0 with k0 | k0
      · exact ⟨.nrm, frC, mC, X', rfl, hQ, hR.of k1, k2.weak k0.1.spec, by rw [← k0.2]; exact k3⟩
      · exact ⟨.nrm, frD, mD, X', rfl, hQ2, hR.of k1, k2.weak k0.1.spec, by rw [← k0.2]; exact k3⟩)
  simpa using this
theorem ox_stop {P : Program} {m : Mm} {nt : Nat} {fr : Fr} {ops : Array Oper} {Q : Fr → Mm → Prop} : OrdX P nt ops .stop fr m Q := trivial
theorem ox_br {P : Program} {m : Mm} {nt : Nat} {fr : Fr} {ops : Array Oper} {Q : Fr → Mm → Prop} {i : Nat} {t more : OT} (h1 : match ops[i]? with
    | none => False
    | some o => StepW P nt ops o fr m fun _ fr' m' => OrdX P nt ops t fr' m' Q) (h2 : OrdX P nt ops more fr m Q) : OrdX P nt ops (.br i t more) fr m Q := by
  unfold OrdX
  exact ⟨h1, h2⟩
def otDC : OT := .br 0 (.br 1 (.br 2 (.br 3 (.br 4 (.br 5 (.br 6 (.br 7 (.fin) (.stop)) (.stop)) (.stop)) (.br 5 (.br 4 (.br 6 (.br 7 (.fin) (.stop)) (.stop)) (.stop)) (.stop))) (.br 4 (.br 3 (.br 5 (.br 6 (.br 7 (.fin) (.stop)) (.stop)) (.stop)) (.br 5 (.br 3 (.br 6 (.br 7 (.fin) (.stop)) (.stop)) (.stop)) (.stop))) (.br 5 (.br 3 (.br 4 (.br 6 (.br 7 (.fin) (.stop)) (.stop)) (.stop)) (.br 4 (.br 3 (.br 6 (.br 7 (.fin) (.stop)) (.stop)) (.stop)) (.stop))) (.stop)))) (.br 4 (.br 2 (.br 3 (.br 5 (.br 6 (.br 7 (.fin) (.stop)) (.stop)) (.stop)) (.br 5 (.br 3 (.br 6 (.br 7 (.fin) (.stop)) (.stop)) (.stop)) (.stop))) (.br 5 (.br 2 (.br 3 (.br 6 (.br 7 (.fin) (.stop)) (.stop)) (.stop)) (.stop)) (.stop))) (.br 5 (.br 2 (.br 3 (.br 4 (.br 6 (.br 7 (.fin) (.stop)) (.stop)) (.stop)) (.br 4 (.br 3 (.br 6 (.br 7 (.fin) (.stop)) (.stop)) (.stop)) (.stop))) (.br 4 (.br 2 (.br 3 (.br 6 (.br 7 (.fin) (.stop)) (.stop)) (.stop)) (.stop)) (.stop))) (.stop)))) (.br 2 (.br 1 (.br 3 (.br 4 (.br 5 (.br 6 (.br 7 (.fin) (.stop)) (.stop)) (.stop)) (.br 5 (.br 4 (.br 6 (.br 7 (.fin) (.stop)) (.stop)) (.stop)) (.stop))) (.br 4 (.br 3 (.br 5 (.br 6 (.br 7 (.fin) (.stop)) (.stop)) (.stop)) (.br 5 (.br 3 (.br 6 (.br 7 (.fin) (.stop)) (.stop)) (.stop)) (.stop))) (.br 5 (.br 3 (.br 4 (.br 6 (.br 7 (.fin) (.stop)) (.stop)) (.stop)) (.br 4 (.br 3 (.br 6 (.br 7 (.fin) (.stop)) (.stop)) (.stop)) (.stop))) (.stop)))) (.br 4 (.br 1 (.br 3 (.br 5 (.br 6 (.br 7 (.fin) (.stop)) (.stop)) (.stop)) (.br 5 (.br 3 (.br 6 (.br 7 (.fin) (.stop)) (.stop)) (.stop)) (.stop))) (.br 5 (.br 1 (.br 3 (.br 6 (.br 7 (.fin) (.stop)) (.stop)) (.stop)) (.stop)) (.stop))) (.br 5 (.br 1 (.br 3 (.br 4 (.br 6 (.br 7 (.fin) (.stop)) (.stop)) (.stop)) (.br 4 (.br 3 (.br 6 (.br 7 (.fin) (.stop)) (.stop)) (.stop)) (.stop))) (.br 4 (.br 1 (.br 3 (.br 6 (.br 7 (.fin) (.stop)) (.stop)) (.stop)) (.stop)) (.stop))) (.stop)))) (.br 4 (.br 1 (.br 2 (.br 3 (.br 5 (.br 6 (.br 7 (.fin) (.stop)) (.stop)) (.stop)) (.br 5 (.br 3 (.br 6 (.br 7 (.fin) (.stop)) (.stop)) (.stop)) (.stop))) (.br 5 (.br 2 (.br 3 (.br 6 (.br 7 (.fin) (.stop)) (.stop)) (.stop)) (.stop)) (.stop))) (.br 2 (.br 1 (.br 3 (.br 5 (.br 6 (.br 7 (.fin) (.stop)) (.stop)) (.stop)) (.br 5 (.br 3 (.br 6 (.br 7 (.fin) (.stop)) (.stop)) (.stop)) (.stop))) (.br 5 (.br 1 (.br 3 (.br 6 (.br 7 (.fin) (.stop)) (.stop)) (.stop)) (.stop)) (.stop))) (.br 5 (.br 1 (.br 2 (.br 3 (.br 6 (.br 7 (.fin) (.stop)) (.stop)) (.stop)) (.stop)) (.br 2 (.br 1 (.br 3 (.br 6 (.br 7 (.fin) (.stop)) (.stop)) (.stop)) (.stop)) (.stop))) (.stop)))) (.br 5 (.br 1 (.br 2 (.br 3 (.br 4 (.br 6 (.br 7 (.fin) (.stop)) (.stop)) (.stop)) (.br 4 (.br 3 (.br 6 (.br 7 (.fin) (.stop)) (.stop)) (.stop)) (.stop))) (.br 4 (.br 2 (.br 3 (.br 6 (.br 7 (.fin) (.stop)) (.stop)) (.stop)) (.stop)) (.stop))) (.br 2 (.br 1 (.br 3 (.br 4 (.br 6 (.br 7 (.fin) (.stop)) (.stop)) (.stop)) (.br 4 (.br 3 (.br 6 (.br 7 (.fin) (.stop)) (.stop)) (.stop)) (.stop))) (.br 4 (.br 1 (.br 3 (.br 6 (.br 7 (.fin) (.stop)) (.stop)) (.stop)) (.stop)) (.stop))) (.br 4 (.br 1 (.br 2 (.br 3 (.br 6 (.br 7 (.fin) (.stop)) (.stop)) (.stop)) (.stop)) (.br 2 (.br 1 (.br 3 (.br 6 (.br 7 (.fin) (.stop)) (.stop)) (.stop)) (.stop)) (.stop))) (.stop)))) (.stop))))) (.br 2 (.br 0 (.br 1 (.br 3 (.br 4 (.br 5 (.br 6 (.br 7 (.fin) (.stop)) (.stop)) (.stop)) (.br 5 (.br 4 (.br 6 (.br 7 (.fin) (.stop)) (.stop)) (.stop)) (.stop))) (.br 4 (.br 3 (.br 5 (.br 6 (.br 7 (.fin) (.stop)) (.stop)) (.stop)) (.br 5 (.br 3 (.br 6 (.br 7 (.fin) (.stop)) (.stop)) (.stop)) (.stop))) (.br 5 (.br 3 (.br 4 (.br 6 (.br 7 (.fin) (.stop)) (.stop)) (.stop)) (.br 4 (.br 3 (.br 6 (.br 7 (.fin) (.stop)) (.stop)) (.stop)) (.stop))) (.stop)))) (.br 4 (.br 1 (.br 3 (.br 5 (.br 6 (.br 7 (.fin) (.stop)) (.stop)) (.stop)) (.br 5 (.br 3 (.br 6 (.br 7 (.fin) (.stop)) (.stop)) (.stop)) (.stop))) (.br 5 (.br 1 (.br 3 (.br 6 (.br 7 (.fin) (.stop)) (.stop)) (.stop)) (.stop)) (.stop))) (.br 5 (.br 1 (.br 3 (.br 4 (.br 6 (.br 7 (.fin) (.stop)) (.stop)) (.stop)) (.br 4 (.br 3 (.br 6 (.br 7 (.fin) (.stop)) (.stop)) (.stop)) (.stop))) (.br 4 (.br 1 (.br 3 (.br 6 (.br 7 (.fin) (.stop)) (.stop)) (.stop)) (.stop)) (.stop))) (.stop)))) (.br 4 (.br 0 (.br 1 (.br 3 (.br 5 (.br 6 (.br 7 (.fin) (.stop)) (.stop)) (.stop)) (.br 5 (.br 3 (.br 6 (.br 7 (.fin) (.stop)) (.stop)) (.stop)) (.stop))) (.br 5 (.br 1 (.br 3 (.br 6 (.br 7 (.fin) (.stop)) (.stop)) (.stop)) (.stop)) (.stop))) (.br 5 (.br 0 (.br 1 (.br 3 (.br 6 (.br 7 (.fin) (.stop)) (.stop)) (.stop)) (.stop)) (.stop)) (.stop))) (.br 5 (.br 0 (.br 1 (.br 3 (.br 4 (.br 6 (.br 7 (.fin) (.stop)) (.stop)) (.stop)) (.br 4 (.br 3 (.br 6 (.br 7 (.fin) (.stop)) (.stop)) (.stop)) (.stop))) (.br 4 (.br 1 (.br 3 (.br 6 (.br 7 (.fin) (.stop)) (.stop)) (.stop)) (.stop)) (.stop))) (.br 4 (.br 0 (.br 1 (.br 3 (.br 6 (.br 7 (.fin) (.stop)) (.stop)) (.stop)) (.stop)) (.stop)) (.stop))) (.stop)))) (.br 4 (.br 0 (.br 1 (.br 2 (.br 3 (.br 5 (.br 6 (.br 7 (.fin) (.stop)) (.stop)) (.stop)) (.br 5 (.br 3 (.br 6 (.br 7 (.fin) (.stop)) (.stop)) (.stop)) (.stop))) (.br 5 (.br 2 (.br 3 (.br 6 (.br 7 (.fin) (.stop)) (.stop)) (.stop)) (.stop)) (.stop))) (.br 2 (.br 1 (.br 3 (.br 5 (.br 6 (.br 7 (.fin) (.stop)) (.stop)) (.stop)) (.br 5 (.br 3 (.br 6 (.br 7 (.fin) (.stop)) (.stop)) (.stop)) (.stop))) (.br 5 (.br 1 (.br 3 (.br 6 (.br 7 (.fin) (.stop)) (.stop)) (.stop)) (.stop)) (.stop))) (.br 5 (.br 1 (.br 2 (.br 3 (.br 6 (.br 7 (.fin) (.stop)) (.stop)) (.stop)) (.stop)) (.br 2 (.br 1 (.br 3 (.br 6 (.br 7 (.fin) (.stop)) (.stop)) (.stop)) (.stop)) (.stop))) (.stop)))) (.br 2 (.br 0 (.br 1 (.br 3 (.br 5 (.br 6 (.br 7 (.fin) (.stop)) (.stop)) (.stop)) (.br 5 (.br 3 (.br 6 (.br 7 (.fin) (.stop)) (.stop)) (.stop)) (.stop))) (.br 5 (.br 1 (.br 3 (.br 6 (.br 7 (.fin) (.stop)) (.stop)) (.stop)) (.stop)) (.stop))) (.br 5 (.br 0 (.br 1 (.br 3 (.br 6 (.br 7 (.fin) (.stop)) (.stop)) (.stop)) (.stop)) (.stop)) (.stop))) (.br 5 (.br 0 (.br 1 (.br 2 (.br 3 (.br 6 (.br 7 (.fin) (.stop)) (.stop)) (.stop)) (.stop)) (.br 2 (.br 1 (.br 3 (.br 6 (.br 7 (.fin) (.stop)) (.stop)) (.stop)) (.stop)) (.stop))) (.br 2 (.br 0 (.br 1 (.br 3 (.br 6 (.br 7 (.fin) (.stop)) (.stop)) (.stop)) (.stop)) (.stop)) (.stop))) (.stop)))) (.br 5 (.br 0 (.br 1 (.br 2 (.br 3 (.br 4 (.br 6 (.br 7 (.fin) (.stop)) (.stop)) (.stop)) (.br 4 (.br 3 (.br 6 (.br 7 (.fin) (.stop)) (.stop)) (.stop)) (.stop))) (.br 4 (.br 2 (.br 3 (.br 6 (.br 7 (.fin) (.stop)) (.stop)) (.stop)) (.stop)) (.stop))) (.br 2 (.br 1 (.br 3 (.br 4 (.br 6 (.br 7 (.fin) (.stop)) (.stop)) (.stop)) (.br 4 (.br 3 (.br 6 (.br 7 (.fin) (.stop)) (.stop)) (.stop)) (.stop))) (.br 4 (.br 1 (.br 3 (.br 6 (.br 7 (.fin) (.stop)) (.stop)) (.stop)) (.stop)) (.stop))) (.br 4 (.br 1 (.br 2 (.br 3 (.br 6 (.br 7 (.fin) (.stop)) (.stop)) (.stop)) (.stop)) (.br 2 (.br 1 (.br 3 (.br 6 (.br 7 (.fin) (.stop)) (.stop)) (.stop)) (.stop)) (.stop))) (.stop)))) (.br 2 (.br 0 (.br 1 (.br 3 (.br 4 (.br 6 (.br 7 (.fin) (.stop)) (.stop)) (.stop)) (.br 4 (.br 3 (.br 6 (.br 7 (.fin) (.stop)) (.stop)) (.stop)) (.stop))) (.br 4 (.br 1 (.br 3 (.br 6 (.br 7 (.fin) (.stop)) (.stop)) (.stop)) (.stop)) (.stop))) (.br 4 (.br 0 (.br 1 (.br 3 (.br 6 (.br 7 (.fin) (.stop)) (.stop)) (.stop)) (.stop)) (.stop)) (.stop))) (.br 4 (.br 0 (.br 1 (.br 2 (.br 3 (.br 6 (.br 7 (.fin) (.stop)) (.stop)) (.stop)) (.stop)) (.br 2 (.br 1 (.br 3 (.br 6 (.br 7 (.fin) (.stop)) (.stop)) (.stop)) (.stop)) (.stop))) (.br 2 (.br 0 (.br 1 (.br 3 (.br 6 (.br 7 (.fin) (.stop)) (.stop)) (.stop)) (.stop)) (.stop)) (.stop))) (.stop)))) (.stop))))
theorem clausesR_same (p : Pol) : (clausesF p).map (fun c => (c.head, c.body)) = (clausesR p).map (fun c => (c.head, c.body)) := by
  unfold clausesF clausesR
  rw [List.map_append, List.map_append, List.map_map, List.map_map, List.map_map]
  rfl
theorem dcalls_does (p : Pol) (g : Grt) (c : Cls) : Does Tryz.prog 3 [poA p, grA g, clsA c] (fun m => (bA true, m)) := by
  have c0 := lives13_does
  have cL := lightP_does p
  have l1 := lightA_does g.head
  have l2 := lightAtoms_does g.body 9 g.ex (by decide)
  have l3 := lightA_does c.head
  have l4 := lightAtoms_does c.body 9 c.ex (by decide)
  cases h1 : lightP p with
  | false =>
    rw [h1] at cL
    refine does_of' Tryz.func3 rfl (by kernel_rfl) rfl Tryz.ntmps3 rfl rfl fun Q hQ => ?_
    repeat (first | refine tr_seq_k fun _ _ => ?_ | (refine tr_region ?_; simp only [go_sem, reduceCtorEq, Nat.reduceEqDiff, Nat.reduceLT, Nat.reduceAdd, ↓reduceIte, clsC]) | (refine tr_draw (id := 6) follows 10000 [8, 11, 13, 14, 18, 20, 21, 25, 27, 28, 32, 34] [0, 1, 2, 3, 4, 5, 6, 7, 8, 9, 10, 12, 11, 13, 14, 15, 16, 17, 19, 18, 20, 21, 22, 23, 24, 26, 25, 27, 28, 29, 30, 31, 33, 32, 34, 35, 36, 37] (by kernel_rfl) ?_; simp only [go_sem, reduceCtorEq, Nat.reduceEqDiff, Nat.reduceLT, Nat.reduceLeDiff, Nat.reduceAdd, Nat.reduceMul, Nat.reduceSub, Nat.reduceBEq, ↓reduceIte, clsC]) | (refine call_of (c0) ?_ ?_; (first | rfl | simp only [go_sem, reduceCtorEq, Nat.reduceEqDiff, Nat.reduceLT, Nat.reduceLeDiff, Nat.reduceAdd, Nat.reduceMul, Nat.reduceSub, Nat.reduceBEq, ↓reduceIte, clsC, shut_col]); simp only [go_sem, reduceCtorEq, Nat.reduceEqDiff, Nat.reduceLT, ↓reduceIte]) | refine k_of (by assumption) ?_ | refine tr_block ?_ | refine tr_scope ?_ | (refine tr_skip ?_; try simp only [ex_seq, ex_block]) | (refine tr_label ?_; try simp only [ex_seq, ex_block]) | (refine tr_exit ?_; try simp only [ex_seq_exit, ex_block_exit, Nat.reduceEqDiff, if_true, if_false, ex_seq, ex_block, reduceCtorEq, ↓reduceIte]) | (refine tr_ret ?_; try simp only [ex_seq_ret, ex_block_ret]))
    refine tr_cond rfl (fun ht => ?_) (fun hf => ?_)
    · cases ht
    · repeat (first | refine tr_seq_k fun _ _ => ?_ | (refine tr_region ?_; simp only [go_sem, List.getElem?_toArray, reduceCtorEq, Nat.reduceEqDiff, Nat.reduceLT, Nat.reduceLeDiff, Nat.reduceAdd, ↓reduceIte]) | (refine tr_draw (id := 6) follows 10000 [8, 11, 13, 14, 18, 20, 21, 25, 27, 28, 32, 34] [0, 1, 2, 3, 4, 5, 6, 7, 8, 9, 10, 12, 11, 13, 14, 15, 16, 17, 19, 18, 20, 21, 22, 23, 24, 26, 25, 27, 28, 29, 30, 31, 33, 32, 34, 35, 36, 37] (by kernel_rfl) ?_; simp only [go_sem, reduceCtorEq, Nat.reduceEqDiff, Nat.reduceLT, Nat.reduceLeDiff, Nat.reduceAdd, Nat.reduceMul, Nat.reduceSub, Nat.reduceBEq, ↓reduceIte]) | (refine call_of (cL) ?_ ?_; (first | rfl | simp only [go_sem, reduceCtorEq, Nat.reduceEqDiff, Nat.reduceLT, Nat.reduceLeDiff, Nat.reduceAdd, Nat.reduceMul, Nat.reduceSub, Nat.reduceBEq, ↓reduceIte, shut_col]); simp only [go_sem, reduceCtorEq, Nat.reduceEqDiff, Nat.reduceLT, ↓reduceIte]) | (refine call_of (l1) ?_ ?_; (first | rfl | simp only [go_sem, reduceCtorEq, Nat.reduceEqDiff, Nat.reduceLT, Nat.reduceLeDiff, Nat.reduceAdd, Nat.reduceMul, Nat.reduceSub, Nat.reduceBEq, ↓reduceIte, shut_col]); simp only [go_sem, reduceCtorEq, Nat.reduceEqDiff, Nat.reduceLT, Nat.reduceLeDiff, Nat.reduceAdd, Nat.reduceMul, Nat.reduceSub, Nat.reduceBEq, ↓reduceIte]) | (refine call_of (l2) ?_ ?_; (first | rfl | simp only [go_sem, reduceCtorEq, Nat.reduceEqDiff, Nat.reduceLT, Nat.reduceLeDiff, Nat.reduceAdd, Nat.reduceMul, Nat.reduceSub, Nat.reduceBEq, ↓reduceIte, shut_col]); simp only [go_sem, reduceCtorEq, Nat.reduceEqDiff, Nat.reduceLT, Nat.reduceLeDiff, Nat.reduceAdd, Nat.reduceMul, Nat.reduceSub, Nat.reduceBEq, ↓reduceIte]) | (refine call_of (l3) ?_ ?_; (first | rfl | simp only [go_sem, reduceCtorEq, Nat.reduceEqDiff, Nat.reduceLT, Nat.reduceLeDiff, Nat.reduceAdd, Nat.reduceMul, Nat.reduceSub, Nat.reduceBEq, ↓reduceIte, shut_col]); simp only [go_sem, reduceCtorEq, Nat.reduceEqDiff, Nat.reduceLT, Nat.reduceLeDiff, Nat.reduceAdd, Nat.reduceMul, Nat.reduceSub, Nat.reduceBEq, ↓reduceIte]) | (refine call_of (l4) ?_ ?_; (first | rfl | simp only [go_sem, reduceCtorEq, Nat.reduceEqDiff, Nat.reduceLT, Nat.reduceLeDiff, Nat.reduceAdd, Nat.reduceMul, Nat.reduceSub, Nat.reduceBEq, ↓reduceIte, shut_col]); simp only [go_sem, reduceCtorEq, Nat.reduceEqDiff, Nat.reduceLT, Nat.reduceLeDiff, Nat.reduceAdd, Nat.reduceMul, Nat.reduceSub, Nat.reduceBEq, ↓reduceIte]) | refine k_of (by assumption) ?_ | refine tr_block ?_ | refine tr_scope ?_ | (refine tr_skip ?_; try simp only [ex_seq]) | (refine tr_label ?_; try simp only [ex_seq, ex_block]) | (refine tr_exit ?_; try simp only [ex_seq_exit, ex_block_exit, Nat.reduceEqDiff, if_true, if_false, ex_seq, ex_block, reduceCtorEq, ↓reduceIte]) | (refine tr_ret ?_; try simp only [ex_seq_ret, ex_block_ret]))
      refine tr_cond rfl (fun ht => ?_) (fun hf => ?_)
      · repeat (first | refine tr_seq_k fun _ _ => ?_ | (refine tr_region ?_; simp only [go_sem, reduceCtorEq, Nat.reduceEqDiff, Nat.reduceLT, ↓reduceIte]) | (refine tr_draw (id := 6) follows 10000 [8, 11, 13, 14, 18, 20, 21, 25, 27, 28, 32, 34] [0, 1, 2, 3, 4, 5, 6, 7, 8, 9, 10, 12, 11, 13, 14, 15, 16, 17, 19, 18, 20, 21, 22, 23, 24, 26, 25, 27, 28, 29, 30, 31, 33, 32, 34, 35, 36, 37] (by kernel_rfl) ?_; simp only [go_sem, reduceCtorEq, Nat.reduceEqDiff, Nat.reduceLT, Nat.reduceLeDiff, Nat.reduceAdd, Nat.reduceMul, Nat.reduceSub, Nat.reduceBEq, ↓reduceIte]) | refine k_of (by assumption) ?_ | refine tr_block ?_ | refine tr_scope ?_ | (refine tr_skip ?_; try simp only [ex_seq, ex_block]) | (refine tr_label ?_; try simp only [ex_seq, ex_block]) | (refine tr_exit ?_; try simp only [ex_seq_exit, ex_block_exit, Nat.reduceEqDiff, if_true, if_false, ex_seq, ex_block, reduceCtorEq, ↓reduceIte]) | (refine tr_ret ?_; try simp only [ex_seq_ret]))
        refine (hQ _ _ [bA true] ?_ (fun m => rfl)).2 <;> simp only [go_sem, reduceCtorEq, Nat.reduceEqDiff, ↓reduceIte, Tryz.f3]
      · cases hf
  | true =>
    rw [h1] at cL
    cases h2 : decide ((g.tw.size : Int) > 300) with
    | true =>
      refine does_of' Tryz.func3 rfl (by kernel_rfl) rfl Tryz.ntmps3 rfl rfl fun Q hQ => ?_
      repeat (first | refine tr_seq_k fun _ _ => ?_ | (refine tr_region ?_; simp only [go_sem, reduceCtorEq, Nat.reduceEqDiff, Nat.reduceLT, Nat.reduceAdd, ↓reduceIte, clsC]) | (refine tr_draw (id := 6) follows 10000 [8, 11, 13, 14, 18, 20, 21, 25, 27, 28, 32, 34] [0, 1, 2, 3, 4, 5, 6, 7, 8, 9, 10, 12, 11, 13, 14, 15, 16, 17, 19, 18, 20, 21, 22, 23, 24, 26, 25, 27, 28, 29, 30, 31, 33, 32, 34, 35, 36, 37] (by kernel_rfl) ?_; simp only [go_sem, reduceCtorEq, Nat.reduceEqDiff, Nat.reduceLT, Nat.reduceLeDiff, Nat.reduceAdd, Nat.reduceMul, Nat.reduceSub, Nat.reduceBEq, ↓reduceIte, clsC]) | (refine call_of (c0) ?_ ?_; (first | rfl | simp only [go_sem, reduceCtorEq, Nat.reduceEqDiff, Nat.reduceLT, Nat.reduceLeDiff, Nat.reduceAdd, Nat.reduceMul, Nat.reduceSub, Nat.reduceBEq, ↓reduceIte, clsC, shut_col]); simp only [go_sem, reduceCtorEq, Nat.reduceEqDiff, Nat.reduceLT, ↓reduceIte]) | refine k_of (by assumption) ?_ | refine tr_block ?_ | refine tr_scope ?_ | (refine tr_skip ?_; try simp only [ex_seq, ex_block]) | (refine tr_label ?_; try simp only [ex_seq, ex_block]) | (refine tr_exit ?_; try simp only [ex_seq_exit, ex_block_exit, Nat.reduceEqDiff, if_true, if_false, ex_seq, ex_block, reduceCtorEq, ↓reduceIte]) | (refine tr_ret ?_; try simp only [ex_seq_ret, ex_block_ret]))
      refine tr_cond rfl (fun ht => ?_) (fun hf => ?_)
      · cases ht
      · repeat (first | refine tr_seq_k fun _ _ => ?_ | (refine tr_region ?_; simp only [go_sem, List.getElem?_toArray, reduceCtorEq, Nat.reduceEqDiff, Nat.reduceLT, Nat.reduceLeDiff, Nat.reduceAdd, ↓reduceIte]) | (refine tr_draw (id := 6) follows 10000 [8, 11, 13, 14, 18, 20, 21, 25, 27, 28, 32, 34] [0, 1, 2, 3, 4, 5, 6, 7, 8, 9, 10, 12, 11, 13, 14, 15, 16, 17, 19, 18, 20, 21, 22, 23, 24, 26, 25, 27, 28, 29, 30, 31, 33, 32, 34, 35, 36, 37] (by kernel_rfl) ?_; simp only [go_sem, reduceCtorEq, Nat.reduceEqDiff, Nat.reduceLT, Nat.reduceLeDiff, Nat.reduceAdd, Nat.reduceMul, Nat.reduceSub, Nat.reduceBEq, ↓reduceIte, h2]) | (refine call_of (cL) ?_ ?_; (first | rfl | simp only [go_sem, reduceCtorEq, Nat.reduceEqDiff, Nat.reduceLT, Nat.reduceLeDiff, Nat.reduceAdd, Nat.reduceMul, Nat.reduceSub, Nat.reduceBEq, ↓reduceIte, h2, shut_col]); simp only [go_sem, List.getElem?_toArray, reduceCtorEq, Nat.reduceEqDiff, Nat.reduceLT, ↓reduceIte, h2]) | (refine call_of (l1) ?_ ?_; (first | rfl | simp only [go_sem, reduceCtorEq, Nat.reduceEqDiff, Nat.reduceLT, Nat.reduceLeDiff, Nat.reduceAdd, Nat.reduceMul, Nat.reduceSub, Nat.reduceBEq, ↓reduceIte, h2, shut_col]); simp only [go_sem, reduceCtorEq, Nat.reduceEqDiff, Nat.reduceLT, Nat.reduceLeDiff, Nat.reduceAdd, Nat.reduceMul, Nat.reduceSub, Nat.reduceBEq, ↓reduceIte, h2]) | (refine call_of (l2) ?_ ?_; (first | rfl | simp only [go_sem, reduceCtorEq, Nat.reduceEqDiff, Nat.reduceLT, Nat.reduceLeDiff, Nat.reduceAdd, Nat.reduceMul, Nat.reduceSub, Nat.reduceBEq, ↓reduceIte, h2, shut_col]); simp only [go_sem, reduceCtorEq, Nat.reduceEqDiff, Nat.reduceLT, Nat.reduceLeDiff, Nat.reduceAdd, Nat.reduceMul, Nat.reduceSub, Nat.reduceBEq, ↓reduceIte, h2]) | (refine call_of (l3) ?_ ?_; (first | rfl | simp only [go_sem, reduceCtorEq, Nat.reduceEqDiff, Nat.reduceLT, Nat.reduceLeDiff, Nat.reduceAdd, Nat.reduceMul, Nat.reduceSub, Nat.reduceBEq, ↓reduceIte, h2, shut_col]); simp only [go_sem, reduceCtorEq, Nat.reduceEqDiff, Nat.reduceLT, Nat.reduceLeDiff, Nat.reduceAdd, Nat.reduceMul, Nat.reduceSub, Nat.reduceBEq, ↓reduceIte, h2]) | (refine call_of (l4) ?_ ?_; (first | rfl | simp only [go_sem, reduceCtorEq, Nat.reduceEqDiff, Nat.reduceLT, Nat.reduceLeDiff, Nat.reduceAdd, Nat.reduceMul, Nat.reduceSub, Nat.reduceBEq, ↓reduceIte, h2, shut_col]); simp only [go_sem, reduceCtorEq, Nat.reduceEqDiff, Nat.reduceLT, Nat.reduceLeDiff, Nat.reduceAdd, Nat.reduceMul, Nat.reduceSub, Nat.reduceBEq, ↓reduceIte, h2]) | refine k_of (by assumption) ?_ | refine tr_block ?_ | refine tr_scope ?_ | (refine tr_skip ?_; try simp only [ex_seq]) | (refine tr_label ?_; try simp only [ex_seq, ex_block]) | (refine tr_exit ?_; try simp only [ex_seq_exit, ex_block_exit, Nat.reduceEqDiff, if_true, if_false, ex_seq, ex_block, reduceCtorEq, ↓reduceIte]) | (refine tr_ret ?_; try simp only [ex_seq_ret, ex_block_ret]))
        refine tr_cond rfl (fun ht => ?_) (fun hf => ?_)
        · repeat (first | refine tr_seq_k fun _ _ => ?_ | (refine tr_region ?_; simp only [go_sem, reduceCtorEq, Nat.reduceEqDiff, Nat.reduceLT, ↓reduceIte]) | (refine tr_draw (id := 6) follows 10000 [8, 11, 13, 14, 18, 20, 21, 25, 27, 28, 32, 34] [0, 1, 2, 3, 4, 5, 6, 7, 8, 9, 10, 12, 11, 13, 14, 15, 16, 17, 19, 18, 20, 21, 22, 23, 24, 26, 25, 27, 28, 29, 30, 31, 33, 32, 34, 35, 36, 37] (by kernel_rfl) ?_; simp only [go_sem, reduceCtorEq, Nat.reduceEqDiff, Nat.reduceLT, Nat.reduceLeDiff, Nat.reduceAdd, Nat.reduceMul, Nat.reduceSub, Nat.reduceBEq, ↓reduceIte]) | refine k_of (by assumption) ?_ | refine tr_block ?_ | refine tr_scope ?_ | (refine tr_skip ?_; try simp only [ex_seq, ex_block]) | (refine tr_label ?_; try simp only [ex_seq, ex_block]) | (refine tr_exit ?_; try simp only [ex_seq_exit, ex_block_exit, Nat.reduceEqDiff, if_true, if_false, ex_seq, ex_block, reduceCtorEq, ↓reduceIte]) | (refine tr_ret ?_; try simp only [ex_seq_ret]))
          refine (hQ _ _ [bA true] ?_ (fun m => rfl)).2 <;> simp only [go_sem, reduceCtorEq, Nat.reduceEqDiff, ↓reduceIte, Tryz.f3]
        · cases hf
    | false =>
      cases h3 : lightA g.head with
      | false =>
        rw [h3] at l1
        refine does_of' Tryz.func3 rfl (by kernel_rfl) rfl Tryz.ntmps3 rfl rfl fun Q hQ => ?_
        repeat (first | refine tr_seq_k fun _ _ => ?_ | (refine tr_region ?_; simp only [go_sem, reduceCtorEq, Nat.reduceEqDiff, Nat.reduceLT, Nat.reduceAdd, ↓reduceIte, clsC]) | (refine tr_draw (id := 6) follows 10000 [8, 11, 13, 14, 18, 20, 21, 25, 27, 28, 32, 34] [0, 1, 2, 3, 4, 5, 6, 7, 8, 9, 10, 12, 11, 13, 14, 15, 16, 17, 19, 18, 20, 21, 22, 23, 24, 26, 25, 27, 28, 29, 30, 31, 33, 32, 34, 35, 36, 37] (by kernel_rfl) ?_; simp only [go_sem, reduceCtorEq, Nat.reduceEqDiff, Nat.reduceLT, Nat.reduceLeDiff, Nat.reduceAdd, Nat.reduceMul, Nat.reduceSub, Nat.reduceBEq, ↓reduceIte, clsC]) | (refine call_of (c0) ?_ ?_; (first | rfl | simp only [go_sem, reduceCtorEq, Nat.reduceEqDiff, Nat.reduceLT, Nat.reduceLeDiff, Nat.reduceAdd, Nat.reduceMul, Nat.reduceSub, Nat.reduceBEq, ↓reduceIte, clsC, shut_col]); simp only [go_sem, reduceCtorEq, Nat.reduceEqDiff, Nat.reduceLT, ↓reduceIte]) | refine k_of (by assumption) ?_ | refine tr_block ?_ | refine tr_scope ?_ | (refine tr_skip ?_; try simp only [ex_seq, ex_block]) | (refine tr_label ?_; try simp only [ex_seq, ex_block]) | (refine tr_exit ?_; try simp only [ex_seq_exit, ex_block_exit, Nat.reduceEqDiff, if_true, if_false, ex_seq, ex_block, reduceCtorEq, ↓reduceIte]) | (refine tr_ret ?_; try simp only [ex_seq_ret, ex_block_ret]))
        refine tr_cond rfl (fun ht => ?_) (fun hf => ?_)
        · cases ht
        · repeat (first | refine tr_seq_k fun _ _ => ?_ | (refine tr_region ?_; simp only [go_sem, List.getElem?_toArray, reduceCtorEq, Nat.reduceEqDiff, Nat.reduceLT, Nat.reduceLeDiff, Nat.reduceAdd, ↓reduceIte]) | (refine tr_draw (id := 6) follows 10000 [8, 11, 13, 14, 18, 20, 21, 25, 27, 28, 32, 34] [0, 1, 2, 3, 4, 5, 6, 7, 8, 9, 10, 12, 11, 13, 14, 15, 16, 17, 19, 18, 20, 21, 22, 23, 24, 26, 25, 27, 28, 29, 30, 31, 33, 32, 34, 35, 36, 37] (by kernel_rfl) ?_; simp only [go_sem, reduceCtorEq, Nat.reduceEqDiff, Nat.reduceLT, Nat.reduceLeDiff, Nat.reduceAdd, Nat.reduceMul, Nat.reduceSub, Nat.reduceBEq, ↓reduceIte, h2]) | (refine call_of (cL) ?_ ?_; (first | rfl | simp only [go_sem, reduceCtorEq, Nat.reduceEqDiff, Nat.reduceLT, Nat.reduceLeDiff, Nat.reduceAdd, Nat.reduceMul, Nat.reduceSub, Nat.reduceBEq, ↓reduceIte, h2, shut_col]); simp only [go_sem, List.getElem?_toArray, reduceCtorEq, Nat.reduceEqDiff, Nat.reduceLT, Nat.reduceLeDiff, Nat.reduceAdd, ↓reduceIte, h2]) | (refine call_of (l1) ?_ ?_; (first | rfl | simp only [go_sem, reduceCtorEq, Nat.reduceEqDiff, Nat.reduceLT, Nat.reduceLeDiff, Nat.reduceAdd, Nat.reduceMul, Nat.reduceSub, Nat.reduceBEq, ↓reduceIte, h2, shut_col]); simp only [go_sem, reduceCtorEq, Nat.reduceEqDiff, Nat.reduceLT, ↓reduceIte]) | (refine call_of (l2) ?_ ?_; (first | rfl | simp only [go_sem, reduceCtorEq, Nat.reduceEqDiff, Nat.reduceLT, Nat.reduceLeDiff, Nat.reduceAdd, Nat.reduceMul, Nat.reduceSub, Nat.reduceBEq, ↓reduceIte, h2, shut_col]); simp only [go_sem, reduceCtorEq, Nat.reduceEqDiff, Nat.reduceLT, Nat.reduceLeDiff, Nat.reduceAdd, Nat.reduceMul, Nat.reduceSub, Nat.reduceBEq, ↓reduceIte, h2]) | (refine call_of (l3) ?_ ?_; (first | rfl | simp only [go_sem, reduceCtorEq, Nat.reduceEqDiff, Nat.reduceLT, Nat.reduceLeDiff, Nat.reduceAdd, Nat.reduceMul, Nat.reduceSub, Nat.reduceBEq, ↓reduceIte, h2, shut_col]); simp only [go_sem, reduceCtorEq, Nat.reduceEqDiff, Nat.reduceLT, Nat.reduceLeDiff, Nat.reduceAdd, Nat.reduceMul, Nat.reduceSub, Nat.reduceBEq, ↓reduceIte, h2]) | (refine call_of (l4) ?_ ?_; (first | rfl | simp only [go_sem, reduceCtorEq, Nat.reduceEqDiff, Nat.reduceLT, Nat.reduceLeDiff, Nat.reduceAdd, Nat.reduceMul, Nat.reduceSub, Nat.reduceBEq, ↓reduceIte, h2, shut_col]); simp only [go_sem, reduceCtorEq, Nat.reduceEqDiff, Nat.reduceLT, Nat.reduceLeDiff, Nat.reduceAdd, Nat.reduceMul, Nat.reduceSub, Nat.reduceBEq, ↓reduceIte, h2]) | refine k_of (by assumption) ?_ | refine tr_block ?_ | refine tr_scope ?_ | (refine tr_skip ?_; try simp only [ex_seq]) | (refine tr_label ?_; try simp only [ex_seq, ex_block]) | (refine tr_exit ?_; try simp only [ex_seq_exit, ex_block_exit, Nat.reduceEqDiff, if_true, if_false, ex_seq, ex_block, reduceCtorEq, ↓reduceIte]) | (refine tr_ret ?_; try simp only [ex_seq_ret, ex_block_ret]))
          refine tr_cond rfl (fun ht => ?_) (fun hf => ?_)
          · repeat (first | refine tr_seq_k fun _ _ => ?_ | (refine tr_region ?_; simp only [go_sem, reduceCtorEq, Nat.reduceEqDiff, Nat.reduceLT, ↓reduceIte]) | (refine tr_draw (id := 6) follows 10000 [8, 11, 13, 14, 18, 20, 21, 25, 27, 28, 32, 34] [0, 1, 2, 3, 4, 5, 6, 7, 8, 9, 10, 12, 11, 13, 14, 15, 16, 17, 19, 18, 20, 21, 22, 23, 24, 26, 25, 27, 28, 29, 30, 31, 33, 32, 34, 35, 36, 37] (by kernel_rfl) ?_; simp only [go_sem, reduceCtorEq, Nat.reduceEqDiff, Nat.reduceLT, Nat.reduceLeDiff, Nat.reduceAdd, Nat.reduceMul, Nat.reduceSub, Nat.reduceBEq, ↓reduceIte]) | refine k_of (by assumption) ?_ | refine tr_block ?_ | refine tr_scope ?_ | (refine tr_skip ?_; try simp only [ex_seq, ex_block]) | (refine tr_label ?_; try simp only [ex_seq, ex_block]) | (refine tr_exit ?_; try simp only [ex_seq_exit, ex_block_exit, Nat.reduceEqDiff, if_true, if_false, ex_seq, ex_block, reduceCtorEq, ↓reduceIte]) | (refine tr_ret ?_; try simp only [ex_seq_ret]))
            refine (hQ _ _ [bA true] ?_ (fun m => rfl)).2 <;> simp only [go_sem, reduceCtorEq, Nat.reduceEqDiff, ↓reduceIte, Tryz.f3]
          · cases hf
      | true =>
        rw [h3] at l1
        cases h4 : lightAs g.body 9 with
        | false =>
          rw [h4] at l2
          refine does_of' Tryz.func3 rfl (by kernel_rfl) rfl Tryz.ntmps3 rfl rfl fun Q hQ => ?_
          repeat (first | refine tr_seq_k fun _ _ => ?_ | (refine tr_region ?_; simp only [go_sem, reduceCtorEq, Nat.reduceEqDiff, Nat.reduceLT, Nat.reduceAdd, ↓reduceIte, clsC]) | (refine tr_draw (id := 6) follows 10000 [8, 11, 13, 14, 18, 20, 21, 25, 27, 28, 32, 34] [0, 1, 2, 3, 4, 5, 6, 7, 8, 9, 10, 12, 11, 13, 14, 15, 16, 17, 19, 18, 20, 21, 22, 23, 24, 26, 25, 27, 28, 29, 30, 31, 33, 32, 34, 35, 36, 37] (by kernel_rfl) ?_; simp only [go_sem, reduceCtorEq, Nat.reduceEqDiff, Nat.reduceLT, Nat.reduceLeDiff, Nat.reduceAdd, Nat.reduceMul, Nat.reduceSub, Nat.reduceBEq, ↓reduceIte, clsC]) | (refine call_of (c0) ?_ ?_; (first | rfl | simp only [go_sem, reduceCtorEq, Nat.reduceEqDiff, Nat.reduceLT, Nat.reduceLeDiff, Nat.reduceAdd, Nat.reduceMul, Nat.reduceSub, Nat.reduceBEq, ↓reduceIte, clsC, shut_col]); simp only [go_sem, reduceCtorEq, Nat.reduceEqDiff, Nat.reduceLT, ↓reduceIte]) | refine k_of (by assumption) ?_ | refine tr_block ?_ | refine tr_scope ?_ | (refine tr_skip ?_; try simp only [ex_seq, ex_block]) | (refine tr_label ?_; try simp only [ex_seq, ex_block]) | (refine tr_exit ?_; try simp only [ex_seq_exit, ex_block_exit, Nat.reduceEqDiff, if_true, if_false, ex_seq, ex_block, reduceCtorEq, ↓reduceIte]) | (refine tr_ret ?_; try simp only [ex_seq_ret, ex_block_ret]))
          refine tr_cond rfl (fun ht => ?_) (fun hf => ?_)
          · cases ht
          · repeat (first | refine tr_seq_k fun _ _ => ?_ | (refine tr_region ?_; simp only [go_sem, List.getElem?_toArray, reduceCtorEq, Nat.reduceEqDiff, Nat.reduceLT, Nat.reduceLeDiff, Nat.reduceAdd, ↓reduceIte]) | (refine tr_draw (id := 6) follows 10000 [8, 11, 13, 14, 18, 20, 21, 25, 27, 28, 32, 34] [0, 1, 2, 3, 4, 5, 6, 7, 8, 9, 10, 12, 11, 13, 14, 15, 16, 17, 19, 18, 20, 21, 22, 23, 24, 26, 25, 27, 28, 29, 30, 31, 33, 32, 34, 35, 36, 37] (by kernel_rfl) ?_; simp only [go_sem, reduceCtorEq, Nat.reduceEqDiff, Nat.reduceLT, Nat.reduceLeDiff, Nat.reduceAdd, Nat.reduceMul, Nat.reduceSub, Nat.reduceBEq, ↓reduceIte, h2]) | (refine call_of (cL) ?_ ?_; (first | rfl | simp only [go_sem, reduceCtorEq, Nat.reduceEqDiff, Nat.reduceLT, Nat.reduceLeDiff, Nat.reduceAdd, Nat.reduceMul, Nat.reduceSub, Nat.reduceBEq, ↓reduceIte, h2, shut_col]); simp only [go_sem, List.getElem?_toArray, reduceCtorEq, Nat.reduceEqDiff, Nat.reduceLT, Nat.reduceLeDiff, Nat.reduceAdd, ↓reduceIte, h2]) | (refine call_of (l1) ?_ ?_; (first | rfl | simp only [go_sem, reduceCtorEq, Nat.reduceEqDiff, Nat.reduceLT, Nat.reduceLeDiff, Nat.reduceAdd, Nat.reduceMul, Nat.reduceSub, Nat.reduceBEq, ↓reduceIte, h2, shut_col]); simp only [go_sem, List.getElem?_toArray, reduceCtorEq, Nat.reduceEqDiff, Nat.reduceLT, ↓reduceIte]) | (refine call_of (l2) ?_ ?_; (first | rfl | simp only [go_sem, reduceCtorEq, Nat.reduceEqDiff, Nat.reduceLT, Nat.reduceLeDiff, Nat.reduceAdd, Nat.reduceMul, Nat.reduceSub, Nat.reduceBEq, ↓reduceIte, h2, shut_col]); simp only [go_sem, reduceCtorEq, Nat.reduceEqDiff, Nat.reduceLT, ↓reduceIte]) | (refine call_of (l3) ?_ ?_; (first | rfl | simp only [go_sem, reduceCtorEq, Nat.reduceEqDiff, Nat.reduceLT, Nat.reduceLeDiff, Nat.reduceAdd, Nat.reduceMul, Nat.reduceSub, Nat.reduceBEq, ↓reduceIte, h2, shut_col]); simp only [go_sem, reduceCtorEq, Nat.reduceEqDiff, Nat.reduceLT, Nat.reduceLeDiff, Nat.reduceAdd, Nat.reduceMul, Nat.reduceSub, Nat.reduceBEq, ↓reduceIte, h2]) | (refine call_of (l4) ?_ ?_; (first | rfl | simp only [go_sem, reduceCtorEq, Nat.reduceEqDiff, Nat.reduceLT, Nat.reduceLeDiff, Nat.reduceAdd, Nat.reduceMul, Nat.reduceSub, Nat.reduceBEq, ↓reduceIte, h2, shut_col]); simp only [go_sem, reduceCtorEq, Nat.reduceEqDiff, Nat.reduceLT, Nat.reduceLeDiff, Nat.reduceAdd, Nat.reduceMul, Nat.reduceSub, Nat.reduceBEq, ↓reduceIte, h2]) | refine k_of (by assumption) ?_ | refine tr_block ?_ | refine tr_scope ?_ | (refine tr_skip ?_; try simp only [ex_seq]) | (refine tr_label ?_; try simp only [ex_seq, ex_block]) | (refine tr_exit ?_; try simp only [ex_seq_exit, ex_block_exit, Nat.reduceEqDiff, if_true, if_false, ex_seq, ex_block, reduceCtorEq, ↓reduceIte]) | (refine tr_ret ?_; try simp only [ex_seq_ret, ex_block_ret]))
            refine tr_cond rfl (fun ht => ?_) (fun hf => ?_)
            · repeat (first | refine tr_seq_k fun _ _ => ?_ | (refine tr_region ?_; simp only [go_sem, reduceCtorEq, Nat.reduceEqDiff, Nat.reduceLT, ↓reduceIte]) | (refine tr_draw (id := 6) follows 10000 [8, 11, 13, 14, 18, 20, 21, 25, 27, 28, 32, 34] [0, 1, 2, 3, 4, 5, 6, 7, 8, 9, 10, 12, 11, 13, 14, 15, 16, 17, 19, 18, 20, 21, 22, 23, 24, 26, 25, 27, 28, 29, 30, 31, 33, 32, 34, 35, 36, 37] (by kernel_rfl) ?_; simp only [go_sem, reduceCtorEq, Nat.reduceEqDiff, Nat.reduceLT, Nat.reduceLeDiff, Nat.reduceAdd, Nat.reduceMul, Nat.reduceSub, Nat.reduceBEq, ↓reduceIte]) | refine k_of (by assumption) ?_ | refine tr_block ?_ | refine tr_scope ?_ | (refine tr_skip ?_; try simp only [ex_seq, ex_block]) | (refine tr_label ?_; try simp only [ex_seq, ex_block]) | (refine tr_exit ?_; try simp only [ex_seq_exit, ex_block_exit, Nat.reduceEqDiff, if_true, if_false, ex_seq, ex_block, reduceCtorEq, ↓reduceIte]) | (refine tr_ret ?_; try simp only [ex_seq_ret]))
              refine (hQ _ _ [bA true] ?_ (fun m => rfl)).2 <;> simp only [go_sem, reduceCtorEq, Nat.reduceEqDiff, ↓reduceIte, Tryz.f3]
            · cases hf
        | true =>
          rw [h4] at l2
          cases h5 : lightA c.head with
          | false =>
            rw [h5] at l3
            refine does_of' Tryz.func3 rfl (by kernel_rfl) rfl Tryz.ntmps3 rfl rfl fun Q hQ => ?_
            repeat (first | refine tr_seq_k fun _ _ => ?_ | (refine tr_region ?_; simp only [go_sem, reduceCtorEq, Nat.reduceEqDiff, Nat.reduceLT, Nat.reduceAdd, ↓reduceIte, clsC]) | (refine tr_draw (id := 6) follows 10000 [8, 11, 13, 14, 18, 20, 21, 25, 27, 28, 32, 34] [0, 1, 2, 3, 4, 5, 6, 7, 8, 9, 10, 12, 11, 13, 14, 15, 16, 17, 19, 18, 20, 21, 22, 23, 24, 26, 25, 27, 28, 29, 30, 31, 33, 32, 34, 35, 36, 37] (by kernel_rfl) ?_; simp only [go_sem, reduceCtorEq, Nat.reduceEqDiff, Nat.reduceLT, Nat.reduceLeDiff, Nat.reduceAdd, Nat.reduceMul, Nat.reduceSub, Nat.reduceBEq, ↓reduceIte, clsC]) | (refine call_of (c0) ?_ ?_; (first | rfl | simp only [go_sem, reduceCtorEq, Nat.reduceEqDiff, Nat.reduceLT, Nat.reduceLeDiff, Nat.reduceAdd, Nat.reduceMul, Nat.reduceSub, Nat.reduceBEq, ↓reduceIte, clsC, shut_col]); simp only [go_sem, reduceCtorEq, Nat.reduceEqDiff, Nat.reduceLT, ↓reduceIte]) | refine k_of (by assumption) ?_ | refine tr_block ?_ | refine tr_scope ?_ | (refine tr_skip ?_; try simp only [ex_seq, ex_block]) | (refine tr_label ?_; try simp only [ex_seq, ex_block]) | (refine tr_exit ?_; try simp only [ex_seq_exit, ex_block_exit, Nat.reduceEqDiff, if_true, if_false, ex_seq, ex_block, reduceCtorEq, ↓reduceIte]) | (refine tr_ret ?_; try simp only [ex_seq_ret, ex_block_ret]))
            refine tr_cond rfl (fun ht => ?_) (fun hf => ?_)
            · cases ht
            · repeat (first | refine tr_seq_k fun _ _ => ?_ | (refine tr_region ?_; simp only [go_sem, List.getElem?_toArray, reduceCtorEq, Nat.reduceEqDiff, Nat.reduceLT, Nat.reduceLeDiff, Nat.reduceAdd, ↓reduceIte]) | (refine tr_draw (id := 6) follows 10000 [8, 11, 13, 14, 18, 20, 21, 25, 27, 28, 32, 34] [0, 1, 2, 3, 4, 5, 6, 7, 8, 9, 10, 12, 11, 13, 14, 15, 16, 17, 19, 18, 20, 21, 22, 23, 24, 26, 25, 27, 28, 29, 30, 31, 33, 32, 34, 35, 36, 37] (by kernel_rfl) ?_; simp only [go_sem, reduceCtorEq, Nat.reduceEqDiff, Nat.reduceLT, Nat.reduceLeDiff, Nat.reduceAdd, Nat.reduceMul, Nat.reduceSub, Nat.reduceBEq, ↓reduceIte, h2]) | (refine call_of (cL) ?_ ?_; (first | rfl | simp only [go_sem, reduceCtorEq, Nat.reduceEqDiff, Nat.reduceLT, Nat.reduceLeDiff, Nat.reduceAdd, Nat.reduceMul, Nat.reduceSub, Nat.reduceBEq, ↓reduceIte, h2, shut_col]); simp only [go_sem, List.getElem?_toArray, reduceCtorEq, Nat.reduceEqDiff, Nat.reduceLT, Nat.reduceLeDiff, Nat.reduceAdd, ↓reduceIte, h2]) | (refine call_of (l1) ?_ ?_; (first | rfl | simp only [go_sem]); simp only [go_sem, List.getElem?_toArray, reduceCtorEq, Nat.reduceEqDiff, Nat.reduceLT, ↓reduceIte]) | (refine call_of (l2) ?_ ?_; (first | rfl | simp only [go_sem, reduceCtorEq, Nat.reduceEqDiff, Nat.reduceLT, Nat.reduceLeDiff, Nat.reduceAdd, Nat.reduceMul, Nat.reduceSub, Nat.reduceBEq, ↓reduceIte, h2, shut_col]); simp only [go_sem, List.getElem?_toArray, reduceCtorEq, Nat.reduceEqDiff, Nat.reduceLT, Nat.reduceLeDiff, Nat.reduceAdd, ↓reduceIte]) | (refine call_of (l3) ?_ ?_; (first | rfl | simp only [go_sem, reduceCtorEq, Nat.reduceEqDiff, Nat.reduceLT, Nat.reduceLeDiff, Nat.reduceAdd, Nat.reduceMul, Nat.reduceSub, Nat.reduceBEq, ↓reduceIte, h2, shut_col]); simp only [go_sem, reduceCtorEq, Nat.reduceEqDiff, Nat.reduceLT, ↓reduceIte]) | (refine call_of (l4) ?_ ?_; (first | rfl | simp only [go_sem, reduceCtorEq, Nat.reduceEqDiff, Nat.reduceLT, Nat.reduceLeDiff, Nat.reduceAdd, Nat.reduceMul, Nat.reduceSub, Nat.reduceBEq, ↓reduceIte, h2, shut_col]); simp only [go_sem, reduceCtorEq, Nat.reduceEqDiff, Nat.reduceLT, Nat.reduceLeDiff, Nat.reduceAdd, Nat.reduceMul, Nat.reduceSub, Nat.reduceBEq, ↓reduceIte, h2]) | refine k_of (by assumption) ?_ | refine tr_block ?_ | refine tr_scope ?_ | (refine tr_skip ?_; try simp only [ex_seq]) | (refine tr_label ?_; try simp only [ex_seq, ex_block]) | (refine tr_exit ?_; try simp only [ex_seq_exit, ex_block_exit, Nat.reduceEqDiff, if_true, if_false, ex_seq, ex_block, reduceCtorEq, ↓reduceIte]) | (refine tr_ret ?_; try simp only [ex_seq_ret, ex_block_ret]))
              refine tr_cond rfl (fun ht => ?_) (fun hf => ?_)
              · repeat (first | refine tr_seq_k fun _ _ => ?_ | (refine tr_region ?_; simp only [go_sem, reduceCtorEq, Nat.reduceEqDiff, Nat.reduceLT, ↓reduceIte]) | (refine tr_draw (id := 6) follows 10000 [8, 11, 13, 14, 18, 20, 21, 25, 27, 28, 32, 34] [0, 1, 2, 3, 4, 5, 6, 7, 8, 9, 10, 12, 11, 13, 14, 15, 16, 17, 19, 18, 20, 21, 22, 23, 24, 26, 25, 27, 28, 29, 30, 31, 33, 32, 34, 35, 36, 37] (by kernel_rfl) ?_; simp only [go_sem, reduceCtorEq, Nat.reduceEqDiff, Nat.reduceLT, Nat.reduceLeDiff, Nat.reduceAdd, Nat.reduceMul, Nat.reduceSub, Nat.reduceBEq, ↓reduceIte]) | refine k_of (by assumption) ?_ | refine tr_block ?_ | refine tr_scope ?_ | (refine tr_skip ?_; try simp only [ex_seq, ex_block]) | (refine tr_label ?_; try simp only [ex_seq, ex_block]) | (refine tr_exit ?_; try simp only [ex_seq_exit, ex_block_exit, Nat.reduceEqDiff, if_true, if_false, ex_seq, ex_block, reduceCtorEq, ↓reduceIte]) | (refine tr_ret ?_; try simp only [ex_seq_ret]))
                refine (hQ _ _ [bA true] ?_ (fun m => rfl)).2 <;> simp only [go_sem, reduceCtorEq, Nat.reduceEqDiff, ↓reduceIte, Tryz.f3]
              · cases hf
          | true =>
            rw [h5] at l3
            cases h6 : lightAs c.body 9 with
            | false =>
              rw [h6] at l4
              refine does_of' Tryz.func3 rfl (by kernel_rfl) rfl Tryz.ntmps3 rfl rfl fun Q hQ => ?_
              repeat (first | refine tr_seq_k fun _ _ => ?_ | (refine tr_region ?_; simp only [go_sem, reduceCtorEq, Nat.reduceEqDiff, Nat.reduceLT, Nat.reduceAdd, ↓reduceIte, clsC]) | (refine tr_draw (id := 6) follows 10000 [8, 11, 13, 14, 18, 20, 21, 25, 27, 28, 32, 34] [0, 1, 2, 3, 4, 5, 6, 7, 8, 9, 10, 12, 11, 13, 14, 15, 16, 17, 19, 18, 20, 21, 22, 23, 24, 26, 25, 27, 28, 29, 30, 31, 33, 32, 34, 35, 36, 37] (by kernel_rfl) ?_; simp only [go_sem, reduceCtorEq, Nat.reduceEqDiff, Nat.reduceLT, Nat.reduceLeDiff, Nat.reduceAdd, Nat.reduceMul, Nat.reduceSub, Nat.reduceBEq, ↓reduceIte, clsC]) | (refine call_of (c0) ?_ ?_; (first | rfl | simp only [go_sem, reduceCtorEq, Nat.reduceEqDiff, Nat.reduceLT, Nat.reduceLeDiff, Nat.reduceAdd, Nat.reduceMul, Nat.reduceSub, Nat.reduceBEq, ↓reduceIte, clsC, shut_col]); simp only [go_sem, reduceCtorEq, Nat.reduceEqDiff, Nat.reduceLT, ↓reduceIte]) | refine k_of (by assumption) ?_ | refine tr_block ?_ | refine tr_scope ?_ | (refine tr_skip ?_; try simp only [ex_seq, ex_block]) | (refine tr_label ?_; try simp only [ex_seq, ex_block]) | (refine tr_exit ?_; try simp only [ex_seq_exit, ex_block_exit, Nat.reduceEqDiff, if_true, if_false, ex_seq, ex_block, reduceCtorEq, ↓reduceIte]) | (refine tr_ret ?_; try simp only [ex_seq_ret, ex_block_ret]))
              refine tr_cond rfl (fun ht => ?_) (fun hf => ?_)
              · cases ht
              · repeat (first | refine tr_seq_k fun _ _ => ?_ | (refine tr_region ?_; simp only [go_sem, List.getElem?_toArray, reduceCtorEq, Nat.reduceEqDiff, Nat.reduceLT, Nat.reduceLeDiff, Nat.reduceAdd, ↓reduceIte]) | (refine tr_draw (id := 6) follows 10000 [8, 11, 13, 14, 18, 20, 21, 25, 27, 28, 32, 34] [0, 1, 2, 3, 4, 5, 6, 7, 8, 9, 10, 12, 11, 13, 14, 15, 16, 17, 19, 18, 20, 21, 22, 23, 24, 26, 25, 27, 28, 29, 30, 31, 33, 32, 34, 35, 36, 37] (by kernel_rfl) ?_; simp only [go_sem, reduceCtorEq, Nat.reduceEqDiff, Nat.reduceLT, Nat.reduceLeDiff, Nat.reduceAdd, Nat.reduceMul, Nat.reduceSub, Nat.reduceBEq, ↓reduceIte, h2]) | (refine call_of (cL) ?_ ?_; (first | rfl | simp only [go_sem, reduceCtorEq, Nat.reduceEqDiff, Nat.reduceLT, Nat.reduceLeDiff, Nat.reduceAdd, Nat.reduceMul, Nat.reduceSub, Nat.reduceBEq, ↓reduceIte, h2, shut_col]); simp only [go_sem, List.getElem?_toArray, reduceCtorEq, Nat.reduceEqDiff, Nat.reduceLT, Nat.reduceLeDiff, Nat.reduceAdd, ↓reduceIte, h2]) | (refine call_of (l1) ?_ ?_; (first | rfl | simp only [go_sem]); simp only [go_sem, List.getElem?_toArray, reduceCtorEq, Nat.reduceEqDiff, Nat.reduceLT, ↓reduceIte]) | (refine call_of (l2) ?_ ?_; (first | rfl | simp only [go_sem]); simp only [go_sem, List.getElem?_toArray, reduceCtorEq, Nat.reduceEqDiff, Nat.reduceLT, Nat.reduceLeDiff, Nat.reduceAdd, ↓reduceIte]) | (refine call_of (l3) ?_ ?_; (first | rfl | simp only [go_sem, reduceCtorEq, Nat.reduceEqDiff, Nat.reduceLT, Nat.reduceLeDiff, Nat.reduceAdd, Nat.reduceMul, Nat.reduceSub, Nat.reduceBEq, ↓reduceIte, h2, shut_col]); simp only [go_sem, List.getElem?_toArray, reduceCtorEq, Nat.reduceEqDiff, Nat.reduceLT, ↓reduceIte]) | (refine call_of (l4) ?_ ?_; (first | rfl | simp only [go_sem, reduceCtorEq, Nat.reduceEqDiff, Nat.reduceLT, Nat.reduceLeDiff, Nat.reduceAdd, Nat.reduceMul, Nat.reduceSub, Nat.reduceBEq, ↓reduceIte, h2, shut_col]); simp only [go_sem, reduceCtorEq, Nat.reduceEqDiff, Nat.reduceLT, ↓reduceIte]) | refine k_of (by assumption) ?_ | refine tr_block ?_ | refine tr_scope ?_ | (refine tr_skip ?_; try simp only [ex_seq]) | (refine tr_label ?_; try simp only [ex_seq, ex_block]) | (refine tr_exit ?_; try simp only [ex_seq_exit, ex_block_exit, Nat.reduceEqDiff, if_true, if_false, ex_seq, ex_block, reduceCtorEq, ↓reduceIte]) | (refine tr_ret ?_; try simp only [ex_seq_ret, ex_block_ret]))
                refine tr_cond rfl (fun ht => ?_) (fun hf => ?_)
                · repeat (first | refine tr_seq_k fun _ _ => ?_ | (refine tr_region ?_; simp only [go_sem, reduceCtorEq, Nat.reduceEqDiff, Nat.reduceLT, ↓reduceIte]) | (refine tr_draw (id := 6) follows 10000 [8, 11, 13, 14, 18, 20, 21, 25, 27, 28, 32, 34] [0, 1, 2, 3, 4, 5, 6, 7, 8, 9, 10, 12, 11, 13, 14, 15, 16, 17, 19, 18, 20, 21, 22, 23, 24, 26, 25, 27, 28, 29, 30, 31, 33, 32, 34, 35, 36, 37] (by kernel_rfl) ?_; simp only [go_sem, reduceCtorEq, Nat.reduceEqDiff, Nat.reduceLT, Nat.reduceLeDiff, Nat.reduceAdd, Nat.reduceMul, Nat.reduceSub, Nat.reduceBEq, ↓reduceIte]) | refine k_of (by assumption) ?_ | refine tr_block ?_ | refine tr_scope ?_ | (refine tr_skip ?_; try simp only [ex_seq, ex_block]) | (refine tr_label ?_; try simp only [ex_seq, ex_block]) | (refine tr_exit ?_; try simp only [ex_seq_exit, ex_block_exit, Nat.reduceEqDiff, if_true, if_false, ex_seq, ex_block, reduceCtorEq, ↓reduceIte]) | (refine tr_ret ?_; try simp only [ex_seq_ret]))
                  refine (hQ _ _ [bA true] ?_ (fun m => rfl)).2 <;> simp only [go_sem, reduceCtorEq, Nat.reduceEqDiff, ↓reduceIte, Tryz.f3]
                · cases hf
            | true =>
              rw [h6] at l4
              have hL := light13 h1
              obtain ⟨z1, z2⟩ := lightAs_all h4
              obtain ⟨z3, z4⟩ := lightAs_all h6
              have y1 := lightA_sz h3
              have y2 := lightA_sz h5
              obtain ⟨B, hB⟩ : ∃ B, B = leadA g :: g.body := ⟨_, rfl⟩
              have hBl : B.length ≤ 1000000 := by rw [hB, List.length_cons]; omega
              have cG : Does Tryz.prog 9 [grA g] (fun m => (.agg ([.v (.string g.head.says), .v (.string g.head.pred), .v (.int .i64 g.head.n), .v (.bool g.head.a0.v), .v (.string g.head.a0.name), .v (.bool g.head.a1.v), .v (.string g.head.a1.name), .v (.bool g.head.a2.v), .v (.string g.head.a2.name), .v (.bool g.head.a3.v), .v (.string g.head.a3.name)] ++ [slC atC false B]), m)) := by rw [hB]; exact gr13_does g (by omega)
              have cGR : Does Tryz.prog 10 [grA g] (fun m => (.agg ([.v (.string g.head.says), .v (.string g.head.pred), .v (.int .i64 g.head.n), .v (.bool g.head.a0.v), .v (.string g.head.a0.name), .v (.bool g.head.a1.v), .v (.string g.head.a1.name), .v (.bool g.head.a2.v), .v (.string g.head.a2.name), .v (.bool g.head.a3.v), .v (.string g.head.a3.name)] ++ [slC atC g.body.isEmpty B]), m)) := by rw [hB]; exact r13grant_does g (by omega)
              have cSR := sameRule13_does g.head B false g.body.isEmpty hBl
              have cC := clauses13_does hL
              have cCR := r13clauses_sh hL
              have cSC := sameCl_does (clausesF p) (clausesR p) (clausesF p).isEmpty (clausesR p).isEmpty (by have := clauses_len p; have := hL.rn; have := hL.gn; omega) (fun x hx => Nat.le_trans (cls_sz hL x hx).2.2 (by decide)) (clausesR_same p)
              have cF := forms_does hL
              have cFR := r13forms_does hL
              have hfl : (formsF p).length ≤ 1000000 := by
                have h1 := srtA_len (fdist (atomsF p))
                have h2 := fdist_le (atomsF p)
                have h3 := atomsF_len hL
                unfold formsF
                omega
              have cSF := sameA_does (formsF p) (formsF p) (atomsF p).isEmpty (formsF p).isEmpty hfl
              rw [decide_eq_true rfl] at cSF
              have cK := consts13_does hL
              have cKR := r13consts_does hL
              have hkl : (constsF p).length ≤ 1000000 := by
                have h1 := csF_len (atomsF p) (acc := [])
                have h3 := atomsF_len hL
                unfold constsF
                rw [sortB_len]
                unfold csAll
                rw [List.length_nil] at h1
                omega
              have cSK := sameS_does (constsF p) (constsF p) (csAll (atomsF p)).isEmpty false hkl
              rw [decide_eq_true rfl] at cSK
              have cT := text13_does c y2 z3 (by omega)
              have cTR := r13text_does c y2 z3 (by omega)
              have eT : ∀ s : ByteArray, decide (s = s) = true := fun s => decide_eq_true rfl
              generalize clText c.head c.body = T at *
              generalize clausesF p = Cl at *
              generalize clausesR p = ClR at *
              generalize formsF p = Fo at *
              generalize constsF p = Co at *
              generalize (atomsF p).isEmpty = ea at *
              generalize (csAll (atomsF p)).isEmpty = ec at *
              refine does_of' Tryz.func3 rfl (by kernel_rfl) rfl Tryz.ntmps3 rfl rfl fun Q hQ => ?_
              repeat (first | refine tr_seq_k fun _ _ => ?_ | (refine tr_region ?_; simp only [go_sem, reduceCtorEq, Nat.reduceEqDiff, Nat.reduceLT, Nat.reduceAdd, ↓reduceIte, clsC]) | (refine tr_draw (id := 6) follows 10000 [8, 11, 13, 14, 18, 20, 21, 25, 27, 28, 32, 34] [0, 1, 2, 3, 4, 5, 6, 7, 8, 9, 10, 12, 11, 13, 14, 15, 16, 17, 19, 18, 20, 21, 22, 23, 24, 26, 25, 27, 28, 29, 30, 31, 33, 32, 34, 35, 36, 37] (by kernel_rfl) ?_; simp only [go_sem, reduceCtorEq, Nat.reduceEqDiff, Nat.reduceLT, Nat.reduceLeDiff, Nat.reduceAdd, Nat.reduceMul, Nat.reduceSub, Nat.reduceBEq, ↓reduceIte, clsC]) | (refine call_of (c0) ?_ ?_; (first | rfl | simp only [go_sem, reduceCtorEq, Nat.reduceEqDiff, Nat.reduceLT, Nat.reduceLeDiff, Nat.reduceAdd, Nat.reduceMul, Nat.reduceSub, Nat.reduceBEq, ↓reduceIte, clsC, shut_col]); simp only [go_sem, reduceCtorEq, Nat.reduceEqDiff, Nat.reduceLT, ↓reduceIte]) | refine k_of (by assumption) ?_ | refine tr_block ?_ | refine tr_scope ?_ | (refine tr_skip ?_; try simp only [ex_seq, ex_block]) | (refine tr_label ?_; try simp only [ex_seq, ex_block]) | (refine tr_exit ?_; try simp only [ex_seq_exit, ex_block_exit, Nat.reduceEqDiff, if_true, if_false, ex_seq, ex_block, reduceCtorEq, ↓reduceIte]) | (refine tr_ret ?_; try simp only [ex_seq_ret, ex_block_ret]))
              refine tr_cond rfl (fun ht => ?_) (fun hf => ?_)
              · cases ht
              repeat (first | refine tr_seq_k fun _ _ => ?_ | (refine tr_region ?_; simp only [go_sem, List.getElem?_toArray, reduceCtorEq, Nat.reduceEqDiff, Nat.reduceLT, Nat.reduceLeDiff, Nat.reduceAdd, ↓reduceIte]) | (refine tr_draw (id := 6) follows 10000 [8, 11, 13, 14, 18, 20, 21, 25, 27, 28, 32, 34] [0, 1, 2, 3, 4, 5, 6, 7, 8, 9, 10, 12, 11, 13, 14, 15, 16, 17, 19, 18, 20, 21, 22, 23, 24, 26, 25, 27, 28, 29, 30, 31, 33, 32, 34, 35, 36, 37] (by kernel_rfl) ?_; simp only [go_sem, reduceCtorEq, Nat.reduceEqDiff, Nat.reduceLT, Nat.reduceLeDiff, Nat.reduceAdd, Nat.reduceMul, Nat.reduceSub, Nat.reduceBEq, ↓reduceIte, h2]) | (refine call_of (cL) ?_ ?_; (first | rfl | simp only [go_sem, reduceCtorEq, Nat.reduceEqDiff, Nat.reduceLT, Nat.reduceLeDiff, Nat.reduceAdd, Nat.reduceMul, Nat.reduceSub, Nat.reduceBEq, ↓reduceIte, h2, shut_col]); simp only [go_sem, List.getElem?_toArray, reduceCtorEq, Nat.reduceEqDiff, Nat.reduceLT, Nat.reduceLeDiff, Nat.reduceAdd, ↓reduceIte, h2]) | (refine call_of (l1) ?_ ?_; (first | rfl | simp only [go_sem]); simp only [go_sem, List.getElem?_toArray, reduceCtorEq, Nat.reduceEqDiff, Nat.reduceLT, ↓reduceIte]) | (refine call_of (l2) ?_ ?_; (first | rfl | simp only [go_sem]); simp only [go_sem, List.getElem?_toArray, reduceCtorEq, Nat.reduceEqDiff, Nat.reduceLT, Nat.reduceLeDiff, Nat.reduceAdd, ↓reduceIte]) | (refine call_of (l3) ?_ ?_; (first | rfl | simp only [go_sem, reduceCtorEq, Nat.reduceEqDiff, Nat.reduceLT, Nat.reduceLeDiff, Nat.reduceAdd, Nat.reduceMul, Nat.reduceSub, Nat.reduceBEq, ↓reduceIte, h2, shut_col]); simp only [go_sem, List.getElem?_toArray, reduceCtorEq, Nat.reduceEqDiff, Nat.reduceLT, ↓reduceIte]) | (refine call_of (l4) ?_ ?_; (first | rfl | simp only [go_sem, reduceCtorEq, Nat.reduceEqDiff, Nat.reduceLT, Nat.reduceLeDiff, Nat.reduceAdd, Nat.reduceMul, Nat.reduceSub, Nat.reduceBEq, ↓reduceIte, h2, shut_col]); simp only [go_sem, reduceCtorEq, Nat.reduceEqDiff, Nat.reduceLT, ↓reduceIte]) | refine k_of (by assumption) ?_ | refine tr_block ?_ | refine tr_scope ?_ | (refine tr_skip ?_; try simp only [ex_seq]) | (refine tr_label ?_; try simp only [ex_seq, ex_block]) | (refine tr_exit ?_; try simp only [ex_seq_exit, ex_block_exit, Nat.reduceEqDiff, if_true, if_false, ex_seq, ex_block, reduceCtorEq, ↓reduceIte]) | (refine tr_ret ?_; try simp only [ex_seq_ret, ex_block_ret]))
              refine tr_cond rfl (fun ht => ?_) (fun hf => ?_)
              · cases ht
              repeat (first | refine tr_seq_k fun _ _ => ?_ | (refine tr_region ?_; simp only [go_sem, reduceCtorEq, Nat.reduceEqDiff, Nat.reduceLT, Nat.reduceLeDiff, Nat.reduceAdd, Nat.reduceMul, Nat.reduceSub, Nat.reduceBEq, ↓reduceIte]) | (refine tr_draw (id := 6) follows 10000 [8, 11, 13, 14, 18, 20, 21, 25, 27, 28, 32, 34] [0, 1, 2, 3, 4, 5, 6, 7, 8, 9, 10, 12, 11, 13, 14, 15, 16, 17, 19, 18, 20, 21, 22, 23, 24, 26, 25, 27, 28, 29, 30, 31, 33, 32, 34, 35, 36, 37] (by kernel_rfl) ?_; simp only [go_sem, reduceCtorEq, Nat.reduceEqDiff, Nat.reduceLT, Nat.reduceLeDiff, Nat.reduceAdd, Nat.reduceMul, Nat.reduceSub, Nat.reduceBEq, ↓reduceIte]) | refine k_of (by assumption) ?_ | refine tr_block ?_ | refine tr_scope ?_ | (refine tr_skip ?_; try simp only [ex_seq]) | (refine tr_label ?_; try simp only [ex_seq, ex_block]) | (refine tr_exit ?_; try simp only [ex_seq_exit, ex_block_exit, Nat.reduceEqDiff, if_true, if_false, ex_seq, ex_block, reduceCtorEq, ↓reduceIte]) | (refine tr_ret ?_; try simp only [ex_seq_ret, ex_block_ret]))
              refine tr_drawX2 (id := 5) follows otDC (by kernel_rfl) [(3, .ptr 0 0), (5, .ptr 2 0), (7, .ptr 3 0), (8, .ptr 4 0)] [(3, .ptr 0 0), (5, .ptr 2 0), (7, .ptr 4 0), (8, .ptr 3 0)] ⟨[⟨false, [.c (slC stC p.e1 p.prin), .c (slC prC p.e2 p.preds), .c (slC clC p.e3 p.clears), iA p.quota, iA p.budget, .c (slC ruC p.e4 p.rules), .c (slC grC p.e5 p.grants)]⟩, ⟨false, sA g.tw :: (([.c (.v (.string g.head.says)), .c (.v (.string g.head.pred)), .c (.v (.int .i64 g.head.n)), .c (.v (.bool g.head.a0.v)), .c (.v (.string g.head.a0.name)), .c (.v (.bool g.head.a1.v)), .c (.v (.string g.head.a1.name)), .c (.v (.bool g.head.a2.v)), .c (.v (.string g.head.a2.name)), .c (.v (.bool g.head.a3.v)), .c (.v (.string g.head.a3.name))] : List AV) ++ [.c (slC atC g.ex g.body)])⟩, ⟨false, ([.c (.v (.string c.head.says)), .c (.v (.string c.head.pred)), .c (.v (.int .i64 c.head.n)), .c (.v (.bool c.head.a0.v)), .c (.v (.string c.head.a0.name)), .c (.v (.bool c.head.a1.v)), .c (.v (.string c.head.a1.name)), .c (.v (.bool c.head.a2.v)), .c (.v (.string c.head.a2.name)), .c (.v (.bool c.head.a3.v)), .c (.v (.string c.head.a3.name))] : List AV) ++ [.c (slC atC c.ex c.body)]⟩, ⟨false, ([.c (.v (.string g.head.says)), .c (.v (.string g.head.pred)), .c (.v (.int .i64 g.head.n)), .c (.v (.bool g.head.a0.v)), .c (.v (.string g.head.a0.name)), .c (.v (.bool g.head.a1.v)), .c (.v (.string g.head.a1.name)), .c (.v (.bool g.head.a2.v)), .c (.v (.string g.head.a2.name)), .c (.v (.bool g.head.a3.v)), .c (.v (.string g.head.a3.name))] : List AV) ++ [.c (slC atC false B)]⟩, ⟨false, ([.c (.v (.string g.head.says)), .c (.v (.string g.head.pred)), .c (.v (.int .i64 g.head.n)), .c (.v (.bool g.head.a0.v)), .c (.v (.string g.head.a0.name)), .c (.v (.bool g.head.a1.v)), .c (.v (.string g.head.a1.name)), .c (.v (.bool g.head.a2.v)), .c (.v (.string g.head.a2.name)), .c (.v (.bool g.head.a3.v)), .c (.v (.string g.head.a3.name))] : List AV) ++ [.c (slC atC g.body.isEmpty B)]⟩], []⟩ ⟨[⟨false, [.c (slC stC p.e1 p.prin), .c (slC prC p.e2 p.preds), .c (slC clC p.e3 p.clears), iA p.quota, iA p.budget, .c (slC ruC p.e4 p.rules), .c (slC grC p.e5 p.grants)]⟩, ⟨false, sA g.tw :: (([.c (.v (.string g.head.says)), .c (.v (.string g.head.pred)), .c (.v (.int .i64 g.head.n)), .c (.v (.bool g.head.a0.v)), .c (.v (.string g.head.a0.name)), .c (.v (.bool g.head.a1.v)), .c (.v (.string g.head.a1.name)), .c (.v (.bool g.head.a2.v)), .c (.v (.string g.head.a2.name)), .c (.v (.bool g.head.a3.v)), .c (.v (.string g.head.a3.name))] : List AV) ++ [.c (slC atC g.ex g.body)])⟩, ⟨false, ([.c (.v (.string c.head.says)), .c (.v (.string c.head.pred)), .c (.v (.int .i64 c.head.n)), .c (.v (.bool c.head.a0.v)), .c (.v (.string c.head.a0.name)), .c (.v (.bool c.head.a1.v)), .c (.v (.string c.head.a1.name)), .c (.v (.bool c.head.a2.v)), .c (.v (.string c.head.a2.name)), .c (.v (.bool c.head.a3.v)), .c (.v (.string c.head.a3.name))] : List AV) ++ [.c (slC atC c.ex c.body)]⟩, ⟨false, ([.c (.v (.string g.head.says)), .c (.v (.string g.head.pred)), .c (.v (.int .i64 g.head.n)), .c (.v (.bool g.head.a0.v)), .c (.v (.string g.head.a0.name)), .c (.v (.bool g.head.a1.v)), .c (.v (.string g.head.a1.name)), .c (.v (.bool g.head.a2.v)), .c (.v (.string g.head.a2.name)), .c (.v (.bool g.head.a3.v)), .c (.v (.string g.head.a3.name))] : List AV) ++ [.c (slC atC g.body.isEmpty B)]⟩, ⟨false, ([.c (.v (.string g.head.says)), .c (.v (.string g.head.pred)), .c (.v (.int .i64 g.head.n)), .c (.v (.bool g.head.a0.v)), .c (.v (.string g.head.a0.name)), .c (.v (.bool g.head.a1.v)), .c (.v (.string g.head.a1.name)), .c (.v (.bool g.head.a2.v)), .c (.v (.string g.head.a2.name)), .c (.v (.bool g.head.a3.v)), .c (.v (.string g.head.a3.name))] : List AV) ++ [.c (slC atC false B)]⟩], []⟩ ?_ ?_ ?_
              · unfold otDC
                repeat' (first | exact ox_stop | exact trivial | exact Or.inl trivial | exact Or.inr trivial | exact Or.inl ⟨⟨rfl, rfl⟩, rfl⟩ | exact Or.inr ⟨⟨rfl, rfl⟩, rfl⟩ | refine ox_br ?_ ?_ | refine And.intro ?_ ?_ | (refine call_of cG ?_ ?_; (first | rfl | simp (maxSteps := 4000000) only [go_sem, List.getElem?_toArray, reduceCtorEq, Nat.reduceEqDiff, Nat.reduceLT, Nat.reduceLeDiff, Nat.reduceAdd, Nat.reduceMul, Nat.reduceSub, Nat.reduceBEq, ↓reduceIte]); simp (maxSteps := 4000000) only [go_sem, reduceCtorEq, Nat.reduceEqDiff, Nat.reduceLT, Nat.reduceLeDiff, Nat.reduceAdd, ↓reduceIte]) | (refine call_of cGR ?_ ?_; (first | rfl | simp (maxSteps := 4000000) only [go_sem, List.getElem?_toArray, reduceCtorEq, Nat.reduceEqDiff, Nat.reduceLT, Nat.reduceLeDiff, Nat.reduceAdd, Nat.reduceMul, Nat.reduceSub, Nat.reduceBEq, ↓reduceIte]); simp (maxSteps := 4000000) only [go_sem, reduceCtorEq, Nat.reduceEqDiff, Nat.reduceLeDiff, Nat.reduceAdd, ↓reduceIte]) | simp (maxSteps := 4000000) only [go_sem, List.getElem?_toArray, reduceCtorEq, Nat.reduceEqDiff, Nat.reduceLT, Nat.reduceAdd, ↓reduceIte] | rfl)
              · repeat (first | refine tr_seq_k fun _ _ => ?_ | (refine tr_region ?_; simp only [go_sem, reduceCtorEq, Nat.reduceEqDiff, Nat.reduceLT, Nat.reduceLeDiff, Nat.reduceAdd, Nat.reduceMul, Nat.reduceSub, Nat.reduceBEq, ↓reduceIte, eT]) | (refine tr_draw (id := 6) follows 10000 [8, 11, 13, 14, 18, 20, 21, 25, 27, 28, 32, 34] [0, 1, 2, 3, 4, 5, 6, 7, 8, 9, 10, 12, 11, 13, 14, 15, 16, 17, 19, 18, 20, 21, 22, 23, 24, 26, 25, 27, 28, 29, 30, 31, 33, 32, 34, 35, 36, 37] (by kernel_rfl) ?_; simp only [go_sem, List.getElem?_toArray, reduceCtorEq, Nat.reduceEqDiff, Nat.reduceLT, Nat.reduceLeDiff, Nat.reduceAdd, ↓reduceIte]) | (refine call_of (cSR) ?_ ?_; (first | rfl | simp only [go_sem, reduceCtorEq, Nat.reduceEqDiff, Nat.reduceLT, Nat.reduceLeDiff, Nat.reduceAdd, Nat.reduceMul, Nat.reduceSub, Nat.reduceBEq, ↓reduceIte, eT, shut_col]); simp only [go_sem, Nat.reduceEqDiff, Nat.reduceLT, Nat.reduceLeDiff, Nat.reduceAdd, Nat.reduceBEq, ↓reduceIte, Bool.true_or, Bool.false_or]) | (refine call_of (cC) ?_ ?_; (first | rfl | simp only [go_sem, reduceCtorEq, Nat.reduceEqDiff, Nat.reduceLT, Nat.reduceLeDiff, Nat.reduceAdd, Nat.reduceMul, Nat.reduceSub, Nat.reduceBEq, ↓reduceIte, eT, shut_col]); simp only [go_sem, Nat.reduceBEq, Bool.true_or, Bool.false_or]) | (refine call_of (cCR) ?_ ?_; (first | rfl | simp only [go_sem, reduceCtorEq, Nat.reduceEqDiff, Nat.reduceLT, Nat.reduceLeDiff, Nat.reduceAdd, Nat.reduceMul, Nat.reduceSub, Nat.reduceBEq, ↓reduceIte, eT, shut_col]); simp only [go_sem, Nat.reduceBEq, Bool.true_or, Bool.false_or]) | (refine call_of (cSC) ?_ ?_; (first | rfl | simp only [go_sem, reduceCtorEq, Nat.reduceEqDiff, Nat.reduceLT, Nat.reduceLeDiff, Nat.reduceAdd, Nat.reduceMul, Nat.reduceSub, Nat.reduceBEq, ↓reduceIte, eT, shut_col]); simp only [go_sem, Nat.reduceEqDiff, Nat.reduceLT, Nat.reduceLeDiff, Nat.reduceAdd, Nat.reduceBEq, ↓reduceIte, Bool.true_or, Bool.false_or]) | (refine call_of (cF) ?_ ?_; (first | rfl | simp only [go_sem, reduceCtorEq, Nat.reduceEqDiff, Nat.reduceLT, Nat.reduceLeDiff, Nat.reduceAdd, Nat.reduceMul, Nat.reduceSub, Nat.reduceBEq, ↓reduceIte, eT, shut_col]); simp only [go_sem, Nat.reduceBEq, Bool.true_or, Bool.false_or]) | (refine call_of (cFR) ?_ ?_; (first | rfl | simp only [go_sem, reduceCtorEq, Nat.reduceEqDiff, Nat.reduceLT, Nat.reduceLeDiff, Nat.reduceAdd, Nat.reduceMul, Nat.reduceSub, Nat.reduceBEq, ↓reduceIte, eT, shut_col]); simp only [go_sem, Nat.reduceBEq, Bool.true_or, Bool.false_or]) | (refine call_of (cSF) ?_ ?_; (first | rfl | simp only [go_sem, reduceCtorEq, Nat.reduceEqDiff, Nat.reduceLT, Nat.reduceLeDiff, Nat.reduceAdd, Nat.reduceMul, Nat.reduceSub, Nat.reduceBEq, ↓reduceIte, eT, shut_col]); simp only [go_sem, Nat.reduceEqDiff, Nat.reduceLT, Nat.reduceLeDiff, Nat.reduceAdd, Nat.reduceBEq, ↓reduceIte, Bool.true_or, Bool.false_or]) | (refine call_of (cK) ?_ ?_; (first | rfl | simp only [go_sem, reduceCtorEq, Nat.reduceEqDiff, Nat.reduceLT, Nat.reduceLeDiff, Nat.reduceAdd, Nat.reduceMul, Nat.reduceSub, Nat.reduceBEq, ↓reduceIte, eT, shut_col]); simp only [go_sem, Nat.reduceBEq, Bool.true_or, Bool.false_or]) | (refine call_of (cKR) ?_ ?_; (first | rfl | simp only [go_sem, reduceCtorEq, Nat.reduceEqDiff, Nat.reduceLT, Nat.reduceLeDiff, Nat.reduceAdd, Nat.reduceMul, Nat.reduceSub, Nat.reduceBEq, ↓reduceIte, eT, shut_col]); simp only [go_sem, Nat.reduceBEq, Bool.true_or, Bool.false_or]) | (refine call_of (cSK) ?_ ?_; (first | rfl | simp only [go_sem, reduceCtorEq, Nat.reduceEqDiff, Nat.reduceLT, Nat.reduceLeDiff, Nat.reduceAdd, Nat.reduceMul, Nat.reduceSub, Nat.reduceBEq, ↓reduceIte, eT, shut_col]); simp only [go_sem, Nat.reduceEqDiff, Nat.reduceLT, Nat.reduceLeDiff, Nat.reduceAdd, Nat.reduceBEq, ↓reduceIte, Bool.true_or, Bool.false_or]) | (refine call_of (cT) ?_ ?_; (first | rfl | simp only [go_sem, reduceCtorEq, Nat.reduceEqDiff, Nat.reduceLT, Nat.reduceLeDiff, Nat.reduceAdd, Nat.reduceMul, Nat.reduceSub, Nat.reduceBEq, ↓reduceIte, eT, shut_col]); simp only [go_sem, Nat.reduceBEq, Bool.true_or, Bool.false_or]) | (refine call_of (cTR) ?_ ?_; (first | rfl | simp only [go_sem, reduceCtorEq, Nat.reduceEqDiff, Nat.reduceLT, Nat.reduceLeDiff, Nat.reduceAdd, Nat.reduceMul, Nat.reduceSub, Nat.reduceBEq, ↓reduceIte, eT, shut_col]); simp only [go_sem, str_beq, Nat.reduceEqDiff, Nat.reduceLT, Nat.reduceBEq, ↓reduceIte, Bool.true_or, Bool.false_or]) | refine k_of (by assumption) ?_ | refine tr_block ?_ | refine tr_scope ?_ | (refine tr_skip ?_; try simp only [ex_seq, ex_block]) | (refine tr_label ?_; try simp only [ex_seq, ex_block]) | (refine tr_exit ?_; try simp only [ex_seq_exit, ex_block_exit, Nat.reduceEqDiff, if_true, if_false, ex_seq, ex_block, reduceCtorEq, ↓reduceIte]) | (refine tr_ret ?_; try simp only [ex_seq_ret, ex_block_ret]))
                refine (hQ _ _ [bA true] ?_ (fun m => rfl)).2 <;> simp only [go_sem, Nat.reduceEqDiff, ↓reduceIte, Tryz.f3]
              · repeat (first | refine tr_seq_k fun _ _ => ?_ | (refine tr_region ?_; simp only [go_sem, reduceCtorEq, Nat.reduceEqDiff, Nat.reduceLT, Nat.reduceLeDiff, Nat.reduceAdd, Nat.reduceMul, Nat.reduceSub, Nat.reduceBEq, ↓reduceIte, eT]) | (refine tr_draw (id := 6) follows 10000 [8, 11, 13, 14, 18, 20, 21, 25, 27, 28, 32, 34] [0, 1, 2, 3, 4, 5, 6, 7, 8, 9, 10, 12, 11, 13, 14, 15, 16, 17, 19, 18, 20, 21, 22, 23, 24, 26, 25, 27, 28, 29, 30, 31, 33, 32, 34, 35, 36, 37] (by kernel_rfl) ?_; simp only [go_sem, List.getElem?_toArray, reduceCtorEq, Nat.reduceEqDiff, Nat.reduceLT, Nat.reduceLeDiff, Nat.reduceAdd, ↓reduceIte]) | (refine call_of (cSR) ?_ ?_; (first | rfl | simp only [go_sem, reduceCtorEq, Nat.reduceEqDiff, Nat.reduceLT, Nat.reduceLeDiff, Nat.reduceAdd, Nat.reduceMul, Nat.reduceSub, Nat.reduceBEq, ↓reduceIte, eT, shut_col]); simp only [go_sem, Nat.reduceEqDiff, Nat.reduceLT, Nat.reduceLeDiff, Nat.reduceAdd, Nat.reduceBEq, ↓reduceIte, Bool.true_or, Bool.false_or]) | (refine call_of (cC) ?_ ?_; (first | rfl | simp only [go_sem, reduceCtorEq, Nat.reduceEqDiff, Nat.reduceLT, Nat.reduceLeDiff, Nat.reduceAdd, Nat.reduceMul, Nat.reduceSub, Nat.reduceBEq, ↓reduceIte, eT, shut_col]); simp only [go_sem, Nat.reduceBEq, Bool.true_or, Bool.false_or]) | (refine call_of (cCR) ?_ ?_; (first | rfl | simp only [go_sem, reduceCtorEq, Nat.reduceEqDiff, Nat.reduceLT, Nat.reduceLeDiff, Nat.reduceAdd, Nat.reduceMul, Nat.reduceSub, Nat.reduceBEq, ↓reduceIte, eT, shut_col]); simp only [go_sem, Nat.reduceBEq, Bool.true_or, Bool.false_or]) | (refine call_of (cSC) ?_ ?_; (first | rfl | simp only [go_sem, reduceCtorEq, Nat.reduceEqDiff, Nat.reduceLT, Nat.reduceLeDiff, Nat.reduceAdd, Nat.reduceMul, Nat.reduceSub, Nat.reduceBEq, ↓reduceIte, eT, shut_col]); simp only [go_sem, Nat.reduceEqDiff, Nat.reduceLT, Nat.reduceLeDiff, Nat.reduceAdd, Nat.reduceBEq, ↓reduceIte, Bool.true_or, Bool.false_or]) | (refine call_of (cF) ?_ ?_; (first | rfl | simp only [go_sem, reduceCtorEq, Nat.reduceEqDiff, Nat.reduceLT, Nat.reduceLeDiff, Nat.reduceAdd, Nat.reduceMul, Nat.reduceSub, Nat.reduceBEq, ↓reduceIte, eT, shut_col]); simp only [go_sem, Nat.reduceBEq, Bool.true_or, Bool.false_or]) | (refine call_of (cFR) ?_ ?_; (first | rfl | simp only [go_sem, reduceCtorEq, Nat.reduceEqDiff, Nat.reduceLT, Nat.reduceLeDiff, Nat.reduceAdd, Nat.reduceMul, Nat.reduceSub, Nat.reduceBEq, ↓reduceIte, eT, shut_col]); simp only [go_sem, Nat.reduceBEq, Bool.true_or, Bool.false_or]) | (refine call_of (cSF) ?_ ?_; (first | rfl | simp only [go_sem, reduceCtorEq, Nat.reduceEqDiff, Nat.reduceLT, Nat.reduceLeDiff, Nat.reduceAdd, Nat.reduceMul, Nat.reduceSub, Nat.reduceBEq, ↓reduceIte, eT, shut_col]); simp only [go_sem, Nat.reduceEqDiff, Nat.reduceLT, Nat.reduceLeDiff, Nat.reduceAdd, Nat.reduceBEq, ↓reduceIte, Bool.true_or, Bool.false_or]) | (refine call_of (cK) ?_ ?_; (first | rfl | simp only [go_sem, reduceCtorEq, Nat.reduceEqDiff, Nat.reduceLT, Nat.reduceLeDiff, Nat.reduceAdd, Nat.reduceMul, Nat.reduceSub, Nat.reduceBEq, ↓reduceIte, eT, shut_col]); simp only [go_sem, Nat.reduceBEq, Bool.true_or, Bool.false_or]) | (refine call_of (cKR) ?_ ?_; (first | rfl | simp only [go_sem, reduceCtorEq, Nat.reduceEqDiff, Nat.reduceLT, Nat.reduceLeDiff, Nat.reduceAdd, Nat.reduceMul, Nat.reduceSub, Nat.reduceBEq, ↓reduceIte, eT, shut_col]); simp only [go_sem, Nat.reduceBEq, Bool.true_or, Bool.false_or]) | (refine call_of (cSK) ?_ ?_; (first | rfl | simp only [go_sem, reduceCtorEq, Nat.reduceEqDiff, Nat.reduceLT, Nat.reduceLeDiff, Nat.reduceAdd, Nat.reduceMul, Nat.reduceSub, Nat.reduceBEq, ↓reduceIte, eT, shut_col]); simp only [go_sem, Nat.reduceEqDiff, Nat.reduceLT, Nat.reduceLeDiff, Nat.reduceAdd, Nat.reduceBEq, ↓reduceIte, Bool.true_or, Bool.false_or]) | (refine call_of (cT) ?_ ?_; (first | rfl | simp only [go_sem, reduceCtorEq, Nat.reduceEqDiff, Nat.reduceLT, Nat.reduceLeDiff, Nat.reduceAdd, Nat.reduceMul, Nat.reduceSub, Nat.reduceBEq, ↓reduceIte, eT, shut_col]); simp only [go_sem, Nat.reduceBEq, Bool.true_or, Bool.false_or]) | (refine call_of (cTR) ?_ ?_; (first | rfl | simp only [go_sem, reduceCtorEq, Nat.reduceEqDiff, Nat.reduceLT, Nat.reduceLeDiff, Nat.reduceAdd, Nat.reduceMul, Nat.reduceSub, Nat.reduceBEq, ↓reduceIte, eT, shut_col]); simp only [go_sem, str_beq, Nat.reduceEqDiff, Nat.reduceLT, Nat.reduceBEq, ↓reduceIte, Bool.true_or, Bool.false_or]) | refine k_of (by assumption) ?_ | refine tr_block ?_ | refine tr_scope ?_ | (refine tr_skip ?_; try simp only [ex_seq, ex_block]) | (refine tr_label ?_; try simp only [ex_seq, ex_block]) | (refine tr_exit ?_; try simp only [ex_seq_exit, ex_block_exit, Nat.reduceEqDiff, if_true, if_false, ex_seq, ex_block, reduceCtorEq, ↓reduceIte]) | (refine tr_ret ?_; try simp only [ex_seq_ret, ex_block_ret]))
                refine (hQ _ _ [bA true] ?_ (fun m => rfl)).2 <;> simp only [go_sem, Nat.reduceEqDiff, ↓reduceIte, Tryz.f3]
end Go.Proofs.YtinbfakpjnnagaaGreatDoor
namespace Go.Vs.Ab
open Go.RowKit Go.Maps Go.ChangeShapes Go.WideShapes Go.Deep
theorem Reps.nil {X : Mem} : Reps X [] [] := ⟨rfl, fun i c x h => by simp at h⟩
theorem Reps.cons {X : Mem} {c : AV} {v : Value} {cs : List AV} {vs : List Value} (h : Rep X c v) (k : Reps X cs vs) : Reps X (c :: cs) (v :: vs) :=
  ⟨by simp [k.1], fun i d x h1 h2 => by
    cases i with
    | zero => simp at h1 h2; subst h1 h2; exact h
    | succ i => exact k.2 i d x (by simpa using h1) (by simpa using h2)⟩
theorem RepCs.nil {C : Nat → Nat → Option Value} : RepCs C [] [] := ⟨rfl, fun i c x h => by simp at h⟩
theorem RepCs.cons {C : Nat → Nat → Option Value} {c : CV} {v : Value} {cs : List CV} {vs : List Value} (h : RepC C c v) (k : RepCs C cs vs) : RepCs C (c :: cs) (v :: vs) :=
  ⟨by simp [k.1], fun i d x h1 h2 => by
    cases i with
    | zero => simp at h1 h2; subst h1 h2; exact h
    | succ i => exact k.2 i d x (by simpa using h1) (by simpa using h2)⟩
theorem RepCs.append {C : Nat → Nat → Option Value} {a b : List CV} {x y : List Value} (h : RepCs C a x) (k : RepCs C b y) : RepCs C (a ++ b) (x ++ y) := repcs_append h k
def Dec {T : Type} (d : Nat) (w : World) (ks : List Sh) (enc : T → List CV) (good : T → Prop) : Prop := ∀ cs, all2 (okc d w) ks cs → ∃ x, RepCs (all w).cell (enc x) cs ∧ good x
theorem dec_str {d : Nat} {w : World} {v : Value} (h : okc d w .str v) : ∃ s : ByteArray, RepC (all w).cell (.v (.string s)) v ∧ s.size ≤ maxLen := by
  cases d with
  | zero => exact h.elim
  | succ d => obtain ⟨s, rfl, hs⟩ := h; exact ⟨s, .v rfl, hs⟩
theorem dec_int {d : Nat} {w : World} {v : Value} (h : okc d w .int v) : ∃ n : Int, RepC (all w).cell (.v (.int .i64 n)) v ∧ (Lit.int .i64 n).wf = true := by
  cases d with
  | zero => exact h.elim
  | succ d => obtain ⟨s, rfl, hs⟩ := h; exact ⟨s, .v rfl, hs⟩
theorem dec_bool {d : Nat} {w : World} {v : Value} (h : okc d w .bool v) : ∃ b : Bool, RepC (all w).cell (.v (.bool b)) v := by
  cases d with
  | zero => exact h.elim
  | succ d => obtain ⟨s, rfl⟩ := h; exact ⟨s, .v rfl⟩
theorem rowsC_of {T : Type} {C : Nat → Nat → Option Value} (enc : T → List CV) (good : T → Prop) (k : Nat) : ∀ (n : Nat) (cs : List Value), cs.length = n * k →
    (∀ i, i < n → ∃ x, RepCs C (enc x) ((cs.drop (i * k)).take k) ∧ good x) → ∃ xs : List T, xs.length = n ∧ RepCs C (xs.flatMap enc) cs ∧ ∀ x ∈ xs, good x
  | 0, cs, hl, _ => by
    have : cs = [] := by simpa using hl
    subst this
    exact ⟨[], rfl, RepCs.nil, by simp⟩
  | n + 1, cs, hl, h => by
    obtain ⟨x, hx, hg⟩ := h 0 (by omega)
    rw [Nat.zero_mul, List.drop_zero] at hx
    obtain ⟨xs, h1, h2, h3⟩ := rowsC_of enc good k n (cs.drop k) (by rw [List.length_drop, hl, Nat.add_mul]; omega) (fun i hi => by
      obtain ⟨y, hy, hgy⟩ := h (i + 1) (by omega)
      refine ⟨y, ?_, hgy⟩
      rw [List.drop_drop]
      rwa [Nat.add_mul, Nat.one_mul, Nat.add_comm] at hy)
    refine ⟨x :: xs, by simp [h1], ?_, ?_⟩
    · rw [List.flatMap_cons]
      have := hx.append h2
      rwa [List.take_append_drop] at this
    · intro y hy
      rcases List.mem_cons.1 hy with rfl | hy
      · exact hg
      · exact h3 y hy
theorem dec_sl {T : Type} {d : Nat} {w : World} {es : List Sh} {enc : T → List CV} {good : T → Prop} (hdec : Dec d w es enc good) {v : Value} (h : okc (d + 1) w (.sl es) v) :
    ∃ l : List T, RepC (all w).cell (.sl false l.length (l.flatMap enc)) v ∧ ∀ x ∈ l, good x := by
  obtain ⟨n, cs, h1, h2⟩ := h
  obtain ⟨l, h3, h4, h5⟩ := rowsC_of (C := (all w).cell) enc good es.length n cs h1.1 (fun i hi => hdec _ (h2 i hi))
  refine ⟨l, ?_, h5⟩
  rcases h1.2 with ⟨rfl, h0⟩ | ⟨a, cap, rfl, g3, g4, g5⟩
  · have : l = [] := List.eq_nil_of_length_eq_zero (by omega)
    subst this
    exact .sl (xs := []) rfl (fun i c x h => by simp at h) (Nat.le_refl _) ⟨Nat.zero_le _, fun _ => rfl⟩ (fun e => by cases e) (fun j x hx => by simp at hx)
  · rw [h3]
    refine .sl (xs := cs) h4.1 h4.2 g3 ⟨g4, fun e => by cases e⟩ (fun e => by cases e) (fun j x hx => ?_)
    have h6 := g5 j x hx
    have hl := (List.getElem?_eq_some_iff.1 hx).1
    have h7 := g5 0 (cs[0]'(by omega)) (by simp)
    have hsp := spot_of_add h7
    obtain ⟨g, off, sp⟩ := a
    simp only at hsp
    subst hsp
    rw [add_none] at h6
    exact ⟨g, off, rfl, h6⟩
section
variable {H : Type} {enc : TypeId × Value → H} {P : Program} {w : World} {base b0 : Nat} {spare : Nat → Bool} {held : Bool} {r : Reach} {d : Nat} {t : TypeId} {v : Value} {x : DataW H} {ps : List MemPlace}
theorem open_agg {T : Type} {encT : T → List CV} {good : T → Prop} {fs : Array Field} {ks : List Sh} (ht : P.underlying t = some (.struct fs)) (hs : shapeOf P d t = some ks) (hdec : Dec d w ks encT good) (hval : Value.okWide P w r b0 t v) (hd : DataW.Trod enc P w base spare held t v x ps) :
    ∃ a : T, Rep (all w) (.agg (encT a)) v ∧ good a := by
  obtain ⟨cs, rfl, h⟩ := arg_struct ht hs hval hd
  obtain ⟨a, h1, h2⟩ := hdec cs h
  exact ⟨a, .agg h1, h2⟩
end
def AtOk (a : Atm) : Prop := a.says.size ≤ maxLen ∧ a.pred.size ≤ maxLen ∧ (Lit.int .i64 a.n).wf = true ∧ a.a0.name.size ≤ maxLen ∧ a.a1.name.size ≤ maxLen ∧ a.a2.name.size ≤ maxLen ∧ a.a3.name.size ≤ maxLen
theorem stD {d : Nat} {w : World} : Dec d w [.str] stC (fun s => s.size ≤ maxLen) := fun cs t0 => by
  obtain ⟨c0, r0, rfl, h0, t1⟩ := all2_cons t0
  obtain rfl := all2_nil t1
  obtain ⟨x0, e0, g0⟩ := dec_str h0
  exact ⟨x0, .cons e0 .nil, g0⟩
theorem atD {d : Nat} {w : World} : Dec d w [.str, .str, .int, .bool, .str, .bool, .str, .bool, .str, .bool, .str] atC AtOk := fun cs t0 => by
  obtain ⟨c0, r0, rfl, h0, t1⟩ := all2_cons t0
  obtain ⟨c1, r1, rfl, h1, t2⟩ := all2_cons t1
  obtain ⟨c2, r2, rfl, h2, t3⟩ := all2_cons t2
  obtain ⟨c3, r3, rfl, h3, t4⟩ := all2_cons t3
  obtain ⟨c4, r4, rfl, h4, t5⟩ := all2_cons t4
  obtain ⟨c5, r5, rfl, h5, t6⟩ := all2_cons t5
  obtain ⟨c6, r6, rfl, h6, t7⟩ := all2_cons t6
  obtain ⟨c7, r7, rfl, h7, t8⟩ := all2_cons t7
  obtain ⟨c8, r8, rfl, h8, t9⟩ := all2_cons t8
  obtain ⟨c9, r9, rfl, h9, t10⟩ := all2_cons t9
  obtain ⟨c10, r10, rfl, h10, t11⟩ := all2_cons t10
  obtain rfl := all2_nil t11
  obtain ⟨x0, e0, g0⟩ := dec_str h0
  obtain ⟨x1, e1, g1⟩ := dec_str h1
  obtain ⟨x2, e2, g2⟩ := dec_int h2
  obtain ⟨x3, e3⟩ := dec_bool h3
  obtain ⟨x4, e4, g4⟩ := dec_str h4
  obtain ⟨x5, e5⟩ := dec_bool h5
  obtain ⟨x6, e6, g6⟩ := dec_str h6
  obtain ⟨x7, e7⟩ := dec_bool h7
  obtain ⟨x8, e8, g8⟩ := dec_str h8
  obtain ⟨x9, e9⟩ := dec_bool h9
  obtain ⟨x10, e10, g10⟩ := dec_str h10
  exact ⟨⟨x0, x1, x2, ⟨x3, x4⟩, ⟨x5, x6⟩, ⟨x7, x8⟩, ⟨x9, x10⟩⟩, .cons e0 (.cons e1 (.cons e2 (.cons e3 (.cons e4 (.cons e5 (.cons e6 (.cons e7 (.cons e8 (.cons e9 (.cons e10 .nil)))))))))), g0, g1, g2, g4, g6, g8, g10⟩
end Go.Vs.Ab
namespace Go.Vs.Ab
open Go.RowKit Go.Maps Go.ChangeShapes Go.WideShapes Go.Deep
section
variable {H : Type} {enc : TypeId × Value → H} {P : Program} {w : World} {base : Nat} {spare : Nat → Bool} {held : Bool}
end
section
variable {H : Type} {enc : TypeId × Value → H} {P : Program} {w : World} {base b0 : Nat} {spare : Nat → Bool} {held : Bool} {r : Reach} {d : Nat} {t : TypeId} {v : Value} {x : DataW H} {ps : List MemPlace}
end
theorem all2_split {α β : Type} {R : α → β → Prop} : ∀ {a b : List α} {cs : List β}, all2 R (a ++ b) cs → ∃ x y, cs = x ++ y ∧ all2 R a x ∧ all2 R b y
  | [], b, cs, h => ⟨[], cs, rfl, trivial, h⟩
  | k :: a, b, cs, h => by
    obtain ⟨c, r, rfl, h0, h1⟩ := all2_cons (show all2 R (k :: (a ++ b)) cs from h)
    obtain ⟨x, y, rfl, h2, h3⟩ := all2_split h1
    exact ⟨c :: x, y, rfl, ⟨h0, h2⟩, h3⟩
def atSh : List Sh := [.str, .str, .int, .bool, .str, .bool, .str, .bool, .str, .bool, .str]
end Go.Vs.Ab
namespace Go.Proofs.YtinbfakpjnnagaaGreatDoor
open Go.RowKit Go.Vs Go.Vs.Ab
theorem prD {d : Nat} {w : World} : Dec d w [.str, .int] prC (fun _ => True) := fun cs t => by
  obtain ⟨c0, r0, rfl, h0, t⟩ := all2_cons t
  obtain ⟨c1, r1, rfl, h1, t⟩ := all2_cons t
  obtain rfl := all2_nil t
  obtain ⟨x0, e0, g0⟩ := dec_str h0
  obtain ⟨x1, e1, g1⟩ := dec_int h1
  exact ⟨⟨x0, x1⟩, .cons e0 (.cons e1 .nil), trivial⟩
theorem clD {d : Nat} {w : World} : Dec (d + 1) w [.str, .sl [.str]] clC (fun _ => True) := fun cs t => by
  obtain ⟨c0, r0, rfl, h0, t⟩ := all2_cons t
  obtain ⟨c1, r1, rfl, h1, t⟩ := all2_cons t
  obtain rfl := all2_nil t
  obtain ⟨x0, e0, g0⟩ := dec_str h0
  obtain ⟨l, e1, g1⟩ := dec_sl stD h1
  exact ⟨⟨x0, false, l⟩, .cons e0 (.cons e1 .nil), trivial⟩
theorem ruD {d : Nat} {w : World} : Dec (d + 1) w (atSh ++ [.sl atSh]) ruC (fun _ => True) := fun cs t => by
  obtain ⟨x, y, rfl, t0, t1⟩ := all2_split t
  obtain ⟨a, e0, g0⟩ := atD x t0
  obtain ⟨c1, r1, rfl, h1, t1⟩ := all2_cons t1
  obtain rfl := all2_nil t1
  obtain ⟨l, e1, g1⟩ := dec_sl atD h1
  exact ⟨⟨a, false, l⟩, RepCs.append e0 (.cons e1 .nil), trivial⟩
theorem grD {d : Nat} {w : World} : Dec (d + 1) w (.str :: (atSh ++ [.sl atSh])) grC (fun _ => True) := fun cs t => by
  obtain ⟨c0, r0, rfl, h0, t⟩ := all2_cons t
  obtain ⟨x, y, rfl, t0, t1⟩ := all2_split t
  obtain ⟨s, e, _⟩ := dec_str h0
  obtain ⟨a, e0, g0⟩ := atD x t0
  obtain ⟨c1, r1, rfl, h1, t1⟩ := all2_cons t1
  obtain rfl := all2_nil t1
  obtain ⟨l, e1, g1⟩ := dec_sl atD h1
  exact ⟨⟨s, a, false, l⟩, .cons e (RepCs.append e0 (.cons e1 .nil)), trivial⟩
theorem clsD {d : Nat} {w : World} : Dec (d + 1) w (atSh ++ [.sl atSh]) clsC (fun _ => True) := fun cs t => by
  obtain ⟨x, y, rfl, t0, t1⟩ := all2_split t
  obtain ⟨a, e0, g0⟩ := atD x t0
  obtain ⟨c1, r1, rfl, h1, t1⟩ := all2_cons t1
  obtain rfl := all2_nil t1
  obtain ⟨l, e1, g1⟩ := dec_sl atD h1
  exact ⟨⟨a, false, l⟩, RepCs.append e0 (.cons e1 .nil), trivial⟩
def poSh13 : List Sh := [.sl [.str], .sl [.str, .int], .sl [.str, .sl [.str]], .int, .int, .sl (atSh ++ [.sl atSh]), .sl (.str :: (atSh ++ [.sl atSh]))]
theorem poD {d : Nat} {w : World} : Dec (d + 2) w poSh13 poC (fun _ => True) := fun cs t => by
  obtain ⟨c0, r0, rfl, h0, t⟩ := all2_cons t
  obtain ⟨c1, r1, rfl, h1, t⟩ := all2_cons t
  obtain ⟨c2, r2, rfl, h2, t⟩ := all2_cons t
  obtain ⟨c3, r3, rfl, h3, t⟩ := all2_cons t
  obtain ⟨c4, r4, rfl, h4, t⟩ := all2_cons t
  obtain ⟨c5, r5, rfl, h5, t⟩ := all2_cons t
  obtain ⟨c6, r6, rfl, h6, t⟩ := all2_cons t
  obtain rfl := all2_nil t
  obtain ⟨l0, e0, g0⟩ := dec_sl stD h0
  obtain ⟨l1, e1, g1⟩ := dec_sl prD h1
  obtain ⟨l2, e2, g2⟩ := dec_sl clD h2
  obtain ⟨q, e3, g3⟩ := dec_int h3
  obtain ⟨b, e4, g4⟩ := dec_int h4
  obtain ⟨l5, e5, g5⟩ := dec_sl ruD h5
  obtain ⟨l6, e6, g6⟩ := dec_sl grD h6
  exact ⟨⟨false, l0, false, l1, false, l2, q, b, false, l5, false, l6⟩, .cons e0 (.cons e1 (.cons e2 (.cons e3 (.cons e4 (.cons e5 (.cons e6 .nil)))))), trivial⟩
end Go.Proofs.YtinbfakpjnnagaaGreatDoor
namespace Go.Proofs.YtinbfakpjnnagaaGreatDoor.calls
open Go.ChangeShapes Go.WideShapes Go.ChangeAt Go.RowKit Go.Vs Go.Vs.Ab
theorem own : ownKnob Tryz.prog.godebug = none := by kernel_rfl
theorem laidOut : laidOutB Tryz.prog = true := by kernel_rfl
theorem readable : (Tryz.f3.params.toList.all fun t => Tryz.prog.readableRec t && decide (t < Tryz.prog.types.size)) = true := by kernel_rfl
theorem shape28 : shapeOf Tryz.prog 8 28 = some poSh13 := by kernel_rfl
theorem shape36 : shapeOf Tryz.prog 8 36 = some (.str :: (atSh ++ [.sl atSh])) := by kernel_rfl
theorem shape38 : shapeOf Tryz.prog 8 38 = some (atSh ++ [.sl atSh]) := by kernel_rfl
set_option maxRecDepth 100000 in
theorem door_met (os : Os) (args : Array Value) : laidMetH Tryz.prog Rows.desugarCallsRow.laid ((World.doorLaid Tryz.prog 400 os).forCall (fun _ _ => 0) ⟨#[], args, []⟩).memory :=
  laidMetH_of_parts3 (fuel := 8) (laidMet_of_run' 8 (by kernel_rfl) (by kernel_rfl)) (by kernel_rfl) (by kernel_rfl)
set_option maxRecDepth 100000 in
theorem lifted (os : Os) (started : os.Started) (H : Type) (enc : TypeId × Value → H) :
    ReturnsInHanded {} Tryz.checked os 3 .any (fun w args => (Rows.desugarCallsSpec.pre enc Tryz.prog Tryz.f3 [] false w args ∧ laidMetH Tryz.prog Rows.desugarCallsRow.laid w) ∧ sizedMet enc Tryz.prog Tryz.f3 (OpenSpec.ofChange Rows.desugarCallsSpec) false w args) (Rows.desugarCallsSpec.post enc Tryz.prog Tryz.f3 false true false false) := by
  refine returnsInHanded_of_change_and (C := Tryz.checked) (X := fun w _ => laidMetH Tryz.prog Rows.desugarCallsRow.laid w) (fun _ _ _ hh h => h.of_heap hh) own started (by kernel_rfl) Tryz.func3
    (ChangeSpec.witness_shaped (enc := enc) (C := Tryz.checked) (os := os) (X := fun w _ => laidMetH Tryz.prog Rows.desugarCallsRow.laid w) false (World.doorLaid Tryz.prog 400 os) #[.agg #[.slice none 0 0, .slice none 0 0, .slice none 0 0, .int .i64 0, .int .i64 0, .slice none 0 0, .slice none 0 0], .agg #[.string ⟨#[]⟩, .string ⟨#[]⟩, .string ⟨#[]⟩, .int .i64 0, .bool false, .string ⟨#[]⟩, .bool false, .string ⟨#[]⟩, .bool false, .string ⟨#[]⟩, .bool false, .string ⟨#[]⟩, .slice none 0 0], .agg #[.string ⟨#[]⟩, .string ⟨#[]⟩, .int .i64 0, .bool false, .string ⟨#[]⟩, .bool false, .string ⟨#[]⟩, .bool false, .string ⟨#[]⟩, .bool false, .string ⟨#[]⟩, .slice none 0 0]] 8 rfl (World.shaped_of_RefB (by kernel_rfl) (by kernel_rfl)) (by kernel_rfl) (by kernel_rfl) (by kernel_rfl) (door_met os _)) ?_
  intro W base args ds gs before hval0 hW _ _ hL _
  have hval : ∀ (j : Nat) t v, Tryz.f3.params[j]? = some t → args[j]? = some v → Value.okWide Tryz.prog W .any base t v := hval0
  have hW' := hW
  obtain ⟨p, q, hA0, hV, rfl, hfz, hnd⟩ := hW
  have hA : DataW.TrodAll enc Tryz.prog W 0 (fun _ => true) true Tryz.f3.params.toList args.toList ds p := hA0
  rw [Tryz.params3] at hA hval
  obtain ⟨v0, vs0, d0, ds0, p0, q0, hargs, rfl, rfl, h0, r0⟩ := trodAll_cons hA
  obtain ⟨v1, vs1, d1, ds1, p1, q1, rfl, rfl, rfl, h1, r1⟩ := trodAll_cons r0
  obtain ⟨v2, vs2, d2, ds2, p2, q2, rfl, rfl, rfl, h2, r2⟩ := trodAll_cons r1
  obtain ⟨rfl, rfl, rfl⟩ := trodAll_nil r2
  obtain rfl : args = #[v0, v1, v2] := by cases args; simp_all
  obtain ⟨rfl, rfl⟩ := trodVars_none hV
  obtain ⟨a0, R0, _⟩ := open_agg Tryz.underlying28 shape28 poD (hval 0 28 v0 rfl rfl) h0
  obtain ⟨a1, R1, _⟩ := open_agg Tryz.underlying36 shape36 grD (hval 1 36 v1 rfl rfl) h1
  obtain ⟨a2, R2, _⟩ := open_agg Tryz.underlying38 shape38 clsD (hval 2 38 v2 rfl rfl) h2
  refine ((dcalls_does a0 a1 a2).bool (Reps.cons R0 (Reps.cons R1 (Reps.cons R2 Reps.nil)))).mono fun e W' ⟨he, hb⟩ => ?_
  subst he
  refine ⟨_, rfl, law_post (tb := 4) hW' rfl rfl laidOut (fun t ht => ?_) rfl Tryz.underlying4 hb⟩
  have := List.all_eq_true.1 readable t ht
  simp only [Bool.and_eq_true, decide_eq_true_eq] at this
  exact this
theorem row_holds : Rows.DesugarCallsSaid :=
  OpenClaim.holds_of_wide 3 Tryz.f3 rfl rfl rfl rfl rfl rfl rfl ⟨rfl, rfl, rfl, rfl, rfl⟩ rfl rfl rfl rfl rfl (by kernel_rfl) Tryz.func3 (by kernel_rfl)
    (of_decide_eq_true (by kernel_rfl)) (by unfold Func.isWrapper; first | (rw [if_pos (by decide +kernel)]; kernel_rfl) | (rw [if_neg (by decide +kernel)]; exact ⟨rfl, rfl⟩))
    (fun os started H enc _ => lifted os started H enc)
theorem holds : Rows.DesugarCallsCardSaid :=
  Claim7.holds_tied_plain_at .later [] [.data, .data, .data] true (true, "b8655b5a8ff96433aed2e2b0f01d8e65fb3d436a248c3062e587e77c5195fd70") false
    row_holds (fun _ h => by cases h) (by kernel_rfl) (fun _ h => by cases h) desugarCalls_row_tie rfl ⟨rfl, rfl⟩ (by kernel_rfl) rfl
    (fun f fn hf hfn => by
      obtain rfl : f = 3 := Option.some.inj ((show Tryz.prog.funcNamed "vouchsafe/vouchsafelaw13.DesugarCalls" = some 3 by kernel_rfl).symm.trans hf) |>.symm
      obtain rfl : fn = Tryz.f3 := (Option.some.inj (Tryz.func3.symm.trans hfn)).symm
      exact ⟨by kernel_rfl, fun j t ht => by
        have hm : t ∈ Tryz.f3.params.toList := by simpa using Array.mem_of_getElem? ht
        have hall : (Tryz.f3.params.toList.all fun u => !Tryz.prog.wantsStandIn u) = true := by kernel_rfl
        exact (show Tryz.prog.wantsStandIn t = false by simpa using List.all_eq_true.1 hall t hm)⟩)
    (by kernel_rfl)
#print axioms holds
end Go.Proofs.YtinbfakpjnnagaaGreatDoor.calls
