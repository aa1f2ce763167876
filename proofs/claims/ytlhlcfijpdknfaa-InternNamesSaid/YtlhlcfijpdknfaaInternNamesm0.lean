/-
  Part 0 of the proof's own texts: general lemmas and contracts of functions, laid one behind the other.
-/
import Derived.Test.YtlhlcfijpdknfaaAm
import Derived.Test.YtlhlcfijpdknfaaAp
import Derived.Test.YtlhlcfijpdknfaaTy
import Derived.Test.YtlhlcfijpdknfaaAr
import Derived.Test.YtlhlcfijpdknfaaBc
import Derived.Test.YtlhlcfijpdknfaaBf
import Derived.Test.YtlhlcfijpdknfaaHp
import Derived.KernelRfl
import Derived.Test.YtlhlcfijpdknfaaBh
import Derived.Shelf.SlIter.AllValuesS
import Derived.Shelf.SlIterI.Sorted
import Derived.Shelf.SortM.Plain
import Derived.Shelf.SortM.SortNone
import Derived.Ground.GgzProg
import Derived.Ground.SlgmProg
import Derived.RangeFuncFrom
import Derived.Test.YtlhlcfijpdknfaaSl
import Derived.Lib.Hide
import Derived.Maps.OwnIn
/-
  A slice that was collected by a callee, as a local block of the caller's; a callee that works in the caller's memory. No program in sight.
-/
set_option linter.unusedVariables false
set_option linter.unusedSimpArgs false
namespace Go.Vs.Ab
open Go.RowKit

variable {P : Program} {X : Mem} {W0 w w' : World} {m : Mm}

theorem vals_getv : ∀ {cs : List CV} {xs : List Value}, vals cs = some xs → ∀ (i : Nat) (c : CV), cs[i]? = some c → ∃ x, c = .v x ∧ xs[i]? = some x
  | [], xs, h, i, c, hc => by simp at hc
  | .sl .. :: _, _, h, _, _, _ => by simp [vals] at h
  | .v x :: r, xs, h, i, c, hc => by
    simp only [vals, Option.map_eq_some_iff] at h
    obtain ⟨ys, h1, rfl⟩ := h
    cases i with
    | zero => simp at hc; exact ⟨x, hc.symm, rfl⟩
    | succ i =>
      obtain ⟨y, h2, h3⟩ := vals_getv h1 i c (by simpa using hc)
      exact ⟨y, h2, by simpa using h3⟩

/-- A block that nobody knows as yet, as a local one. -/
theorem MR.adopt (M : MR X W0 m w) {β R : Nat} {cur : Array Value} {t : TypeId} {cs : List AV} (hW : W0.heap.size ≤ β) (hcell : ∀ o, X.cell β o = none) (hloc : ∀ i, X.loc i ≠ some β) (hown : ∀ k T, X.own k = some T → T.g ≠ β)
    (hheap : w.heap[β]? = some (.cells cur t (0, 0))) (hl : cs.length ≤ cur.size) (hr : Reps X cs (cur.toList.take cs.length)) (hR : X.room β ≤ R) (hRs : R ≤ cur.size) :
    MR (X.adopt m.hp.length β R) W0 { m with hp := m.hp ++ [⟨false, cs⟩] } w ∧ X.Le W0.heap.size (X.adopt m.hp.length β R) :=
  M.adopt' hW hcell (fun i _ h _ => absurd h (hloc i)) hown hheap hl hr hR hRs

/-- What a callee collected (all of it plain), as a block of the caller's. -/
theorem Does.lsl {F : FuncId} {args args' : List AV} {f : Mm → AV × Mm} (h : Does P F args' f) (hs : shuts args = some args') {k n : Nat} {e : TypeId} {size : Nat} {cs : List CV} {xs : List Value} {m1 : Mm} (hf : f ⟨[], []⟩ = (.own k n cs, m1)) (hk : m1.hw[k]? = some ⟨n, e, size⟩) (hv : vals cs = some xs) (m : Mm) :
    Gives P F args m (.lsl m.hp.length 0 n size) { m with hp := m.hp ++ [⟨false, cs.map .c⟩] } := by
  refine ⟨h.1, fun X W0 w vs M ha => ?_⟩
  refine (h.2 X.bare w ⟨[], []⟩ w vs (bare_MR M) (shuts_rep (X := X) (Y := X.bare) rfl hs ha)).mono ?_
  rintro _ w' ⟨v, X1, rfl, k1, k2, k3, _⟩
  rw [hf] at k2 k3
  have M1 := M.grow k3.below
  obtain ⟨T, t1, ⟨t2, t2e, t2s⟩, t3, t4, t5, t6, ⟨cur, t7, t8⟩, t9, t10⟩ := k3.toks k _ hk
  simp only at t2 t2e t2s
  cases k2 with
  | own hr hn1 hc hx ht =>
    rename_i ys a cap
    obtain ⟨T', u1, u2, u3⟩ := ht
    rw [t1] at u1
    injection u1 with u1
    subst u1
    obtain ⟨rfl, rfl⟩ := u3 t2.symm
    have hnew : ∀ o, X.cell T.g o = none := fun o => by
      cases hq : X.cell T.g o with
      | none => rfl
      | some x => have := M.cellBlock hq; omega
    have hroom : X.room T.g = 0 := by
      rcases Nat.eq_zero_or_pos (X.room T.g) with h0 | h0
      · exact h0
      · obtain ⟨ar, tt, q1, _⟩ := M.rm T.g h0
        have := (Array.getElem?_eq_some_iff.1 q1).1
        omega
    have hcurj : ∀ (j : Nat) (x : Value), ys[j]? = some x → cur[j]? = some x := fun j x hj => by
      obtain ⟨b, o, e1, e2⟩ := hx j x hj
      injection e1 with e1
      injection e1 with e1 e3
      subst e1 e3
      have h5 := k3.cell _ _ _ e2
      rw [Nat.zero_add] at h5
      simp only [World.cell?, t7] at h5
      simpa using h5
    have hlen : cs.length ≤ cur.size := by
      rcases Nat.eq_zero_or_pos cs.length with h0 | h0
      · omega
      · have hl : cs.length - 1 < ys.length := by rw [← hr.1]; omega
        have := hcurj _ _ (List.getElem?_eq_getElem hl)
        have := (Array.getElem?_eq_some_iff.1 this).1
        omega
    have hrp : Reps X (cs.map .c) (cur.toList.take (cs.map AV.c).length) := by
      rw [List.length_map]
      refine ⟨by rw [List.length_map, List.length_take]; simp only [Array.length_toList]; omega, fun i c x h1 h2 => ?_⟩
      rw [List.getElem?_map, Option.map_eq_some_iff] at h1
      obtain ⟨c0, h1, rfl⟩ := h1
      have hi := (List.getElem?_eq_some_iff.1 h1).1
      rw [List.getElem?_take, if_pos hi, Array.getElem?_toList] at h2
      obtain ⟨x0, rfl, _⟩ := vals_getv hv i c0 h1
      have hl : i < ys.length := by rw [← hr.1]; exact hi
      have h3 := hcurj i _ (List.getElem?_eq_getElem hl)
      rw [h2] at h3
      injection h3 with h3
      have h4 := hr.2 i _ _ h1 (List.getElem?_eq_getElem hl)
      rw [← h3] at h4
      cases h4 with
      | v h5 => exact .c (.v h5)
    obtain ⟨A, hle⟩ := M1.adopt (β := T.g) (R := T.cap * T.size) (Nat.le_trans M.below.size t3) hnew (fun i hi => by have := (M.locBlock hi).1; omega) (fun k S hS e => by have := (M.tokBlock hS).1; omega) t7 (by rw [List.length_map]; exact hlen) hrp (by rw [hroom]; exact Nat.zero_le _) (by rw [t8]; exact Nat.le_refl _)
    refine ⟨_, X.adopt m.hp.length T.g (T.cap * T.size), rfl, hle, ?_, A, fun i β hi => k3.below.block β (M.locBlock hi).1⟩
    refine .lsl (by simp [Mem.adopt]) (fun _ => by rw [Nat.zero_mul]) hn1 hc.1 ?_
    simp only [Mem.adopt, if_true]
    rw [t2s, Nat.zero_add]
    exact Nat.le_refl _

/-- A function, by its body, called in the caller's memory. -/
theorem givesW_of {F : FuncId} {fn : Func} {c : Code} (hF : P.funcs[F]? = some fn) (hb : fn.body = some c) (hcb : callableB fn = true) {args : List AV} {r : AV} {m m' : Mm} (hle : args.length ≤ fn.ntmps)
    (h : Tr fle P fn.ntmps c (initFr 0 args) m (fun e fr m1 => (∀ id, e ≠ .exit id) ∧ ∃ cs, resAll P fr m1 fn.results.toList = some cs ∧ resV cs = r ∧ m1 = m')) : GivesW P F args m r m' := by
  refine ⟨callable_of hF hcb, fun X W0 w vs M hargs => ?_⟩
  refine (calls_of_wp hF hb (R := fun e w' => ∃ v X', e = .returned v ∧ X.Le W0.heap.size X' ∧ Rep X' r v ∧ MR X' W0 m' w') (wp_mono (h X W0 w _ (FR.init hargs hle) M) ?_))
  rintro _ a' w' ⟨ex, fr', m1, X1, rfl, ⟨hne, cs, h1, rfl, rfl⟩, k1, k2, k3⟩
  obtain ⟨vs', g1, g2⟩ := resAll_ok k2 k3 h1
  have : a'.defers = [] ∧ ∃ v, (results fn a'.tmps).run P w' = .ok v w' ∧ ∃ v2 X', Ending.returned v = .returned v2 ∧ X.Le W0.heap.size X' ∧ Rep X' (resV cs) v2 ∧ MR X' W0 m1 w' :=
    ⟨k2.defers, _, results_run g2, _, X1, rfl, k1, resV_ok g1, k3⟩
  cases ex with
  | nrm => exact this
  | ret => exact this
  | exit id => exact absurd rfl (hne id)
theorem givesW_of' {F : FuncId} {fn : Func} {c : Code} {rs : List ResultVar} (hF : P.funcs[F]? = some fn) (hb : fn.body = some c) (hcb : callableB fn = true) {args : List AV} {r : AV} {m m' : Mm} {nt : Nat} (hnt : fn.ntmps = nt) (hle : Nat.ble args.length nt = true) (hrs : fn.results.toList = rs)
    (h : ∀ Q : Ex → Fr → Mm → Prop, (∀ fr m1 cs, resAll P fr m1 rs = some cs → resV cs = r → m1 = m' → Q .nrm fr m1 ∧ Q .ret fr m1) → Tr fle P nt c (initFr 0 args) m Q) : GivesW P F args m r m' := by
  subst hnt hrs
  exact givesW_of hF hb hcb (by simpa using hle) (h _ fun fr m1 cs h1 h2 h3 => ⟨⟨(fun _ h => by cases h), cs, h1, h2, h3⟩, ⟨(fun _ h => by cases h), cs, h1, h2, h3⟩⟩)
end Go.Vs.Ab

/-
  Blocks that hold a list of encoded things; slices over them, written in place, closed. No program in sight.
-/
set_option linter.unusedVariables false
set_option linter.unusedSimpArgs false
namespace Go.Vs.Ab
open Go.RowKit

variable {P : Program} {X : Mem} {W0 w w' : World} {m : Mm}

/-- The cells of a list of encoded things. -/
def blC {T : Type} (enc : T → List CV) (l : List T) : List AV := (l.flatMap enc).map .c
theorem plainB_blC {T : Type} {enc : T → List CV} {l : List T} : plainB (blC enc l) = true := by
  unfold blC
  cases l.flatMap enc <;> rfl
theorem lows_c (i j : Nat) : ∀ ds : List CV, lows i j (ds.map .c) = true
  | [] => rfl
  | d :: r => by
    show (low i j (.c d) && lows i j (r.map .c)) = true
    rw [lows_c i j r]
    rfl
theorem lows_blC {T : Type} {enc : T → List CV} {l : List T} {i j : Nat} : lows i j (blC enc l) = true := lows_c i j _
theorem len_blC {T : Type} {enc : T → List CV} {size : Nat} (hk : ∀ x, (enc x).length = size) (l : List T) : (blC enc l).length = l.length * size := by
  unfold blC
  rw [List.length_map, flat_length enc size hk]
theorem cleans_map : ∀ ds : List CV, cleans (ds.map .c) = some ds
  | [] => rfl
  | d :: r => by
    show cleans (.c d :: r.map .c) = _
    simp only [cleans, clean, cleans_map r]
theorem drop_blC {T : Type} {enc : T → List CV} {size : Nat} (hk : ∀ x, (enc x).length = size) {l : List T} {k : Nat} (h : k < l.length) : List.drop (k * size) (blC enc l) = (enc l[k]).map .c ++ blC enc (l.drop (k + 1)) := by
  unfold blC
  rw [← List.map_drop, flat_drop enc size hk l k h, List.map_append]
theorem fit_blC {T : Type} {enc : T → List CV} {size : Nat} (hk : ∀ x, (enc x).length = size) {l : List T} {k : Nat} (h : k < l.length) : k * size + size ≤ (blC enc l).length := by
  rw [len_blC hk]
  have : (k + 1) * size ≤ l.length * size := Nat.mul_le_mul_right _ h
  rwa [Nat.add_mul, Nat.one_mul] at this
theorem take_flat {T : Type} {enc : T → List CV} {size : Nat} (hk : ∀ x, (enc x).length = size) (l : List T) (k : Nat) : List.take (k * size) (l.flatMap enc) = (l.take k).flatMap enc := by
  induction k generalizing l with
  | zero => simp
  | succ k ih =>
    cases l with
    | nil => simp
    | cons x l =>
      rw [List.flatMap_cons, List.take_succ_cons, List.flatMap_cons, ← ih l]
      have : (k + 1) * size = (enc x).length + k * size := by rw [hk, Nat.add_mul, Nat.one_mul, Nat.add_comm]
      rw [this, List.take_append]
      have h1 : List.take ((enc x).length + k * size) (enc x) = enc x := List.take_of_length_le (by omega)
      rw [h1]
      congr 2
      omega
theorem drop_flat {T : Type} {enc : T → List CV} {size : Nat} (hk : ∀ x, (enc x).length = size) (l : List T) (k : Nat) : List.drop (k * size) (l.flatMap enc) = (l.drop k).flatMap enc := by
  induction k generalizing l with
  | zero => simp
  | succ k ih =>
    cases l with
    | nil => simp
    | cons x l =>
      rw [List.flatMap_cons, List.drop_succ_cons, ← ih l]
      have : (k + 1) * size = (enc x).length + k * size := by rw [hk, Nat.add_mul, Nat.one_mul, Nat.add_comm]
      rw [this, ← List.drop_drop, List.drop_left' rfl]
theorem set_blC {T : Type} {enc : T → List CV} {size : Nat} (hk : ∀ x, (enc x).length = size) {l : List T} {k : Nat} (h : k < l.length) (x : T) : List.take (k * size) (blC enc l) ++ (enc x).map AV.c ++ List.drop (k * size + size) (blC enc l) = blC enc (l.set k x) := by
  unfold blC
  have e : k * size + size = (k + 1) * size := by rw [Nat.add_mul, Nat.one_mul]
  rw [← List.map_take, ← List.map_drop, e, take_flat hk, drop_flat hk, List.set_eq_take_append_cons_drop, if_pos h, List.flatMap_append, List.flatMap_cons, List.map_append, List.map_append, List.append_assoc]

/-- A place in a slice over a local block; parts of it. -/
theorem idxL {t e : TypeId} {size : Nat} (ht : P.underlying t = some (.slice e)) (hs : tsz P e = some size) (h0 : 0 < size) {b lo n k : Nat} {ik : IntKind} (h : k < n) : aIndexL P t (.lsl b lo n size) (.c (.v (.int ik (k : Int)))) = some (.ptr b ((lo + k) * size)) := by
  have h1 : Nat.blt k n = true := by simpa using h
  have h2 : Nat.blt 0 size = true := by simpa using h0
  have hn : natI (k : Int) = some k := natI_nat k
  simp only [aIndexL, ht, lsV, intV, hs, hn, h1, h2, Nat.beq_refl, Bool.and_self, if_true]
theorem slL_from {t e : TypeId} {size : Nat} (ht : P.underlying t = some (.slice e)) (hs : tsz P e = some size) {b lo n k : Nat} (h : k ≤ n) : aSliceL P t (.lsl b lo n size) (some (k : Int)) none none = some (.lsl b (lo + k) (n - k) size) := by
  have hb : bnds n (some (k : Int)) none none = some (k, n, none) := by
    unfold bnds
    simp [natI_nat, h]
  simp only [aSliceL, ht, lsV, hs, hb, Nat.beq_refl, if_true]
theorem slL_to {t e : TypeId} {size : Nat} (ht : P.underlying t = some (.slice e)) (hs : tsz P e = some size) {b lo n k : Nat} (h : k ≤ n) : aSliceL P t (.lsl b lo n size) none (some (k : Int)) none = some (.lsl b lo k size) := by
  have hb : bnds n none (some (k : Int)) none = some (0, k, none) := by
    unfold bnds
    simp [natI_nat, h]
  simp only [aSliceL, ht, lsV, hs, hb, Nat.beq_refl, if_true, Nat.add_zero, Nat.sub_zero]
theorem zrs_rep {T : Type} {enc : T → List CV} (z : T) (n : Nat) (h : 0 < (enc z).length) : zrs n (enc z) = blC enc (List.replicate n z) := by
  have key : ∀ n, (List.range (n * (enc z).length)).map (fun i => (enc z).getD (i % (enc z).length) default) = (List.replicate n z).flatMap enc := fun n => by
    induction n with
    | zero => simp
    | succ n ih =>
      rw [List.replicate_succ', List.flatMap_append, ← ih, Nat.add_mul, Nat.one_mul, List.range_add, List.map_append]
      congr 1
      simp only [List.flatMap_cons, List.flatMap_nil, List.append_nil, List.map_map]
      apply List.ext_getElem?
      intro i
      rw [List.getElem?_map]
      by_cases hi : i < (enc z).length
      · rw [List.getElem?_range hi]
        simp only [Option.map_some, Function.comp]
        rw [Nat.add_comm, Nat.add_mul_mod_self_right, Nat.mod_eq_of_lt hi, List.getD_eq_getElem?_getD, List.getElem?_eq_getElem hi]
        rfl
      · rw [List.getElem?_eq_none (by simpa using hi), List.getElem?_eq_none (Nat.le_of_not_lt hi)]
        rfl
  unfold zrs blC
  rw [key]
theorem clear_blC {T : Type} {enc : T → List CV} {size : Nat} (hk : ∀ x, (enc x).length = size) (h0 : 0 < size) {t e : TypeId} (ht : P.underlying t = some (.slice e)) {z : T} (hz : tzero P e = some (enc z)) {l : List T} {i : Nat} (hi : i ≤ l.length) {hw : List Hw} :
    aClear P ⟨[⟨false, blC enc l⟩], hw⟩ t (.lsl 0 i (l.length - i) size) = some ⟨[⟨false, blC enc (l.take i ++ List.replicate (l.length - i) z)⟩], hw⟩ := by
  simp only [aClear, ht, lsV, hz]
  by_cases hn : l.length - i = 0
  · rw [hn]
    rw [if_pos (by rfl)]
    rw [List.take_of_length_le (by omega)]
    simp
  · have hb : Nat.beq (l.length - i) 0 = false := by
      rw [Bool.eq_false_iff]
      exact fun e => hn (Nat.eq_of_beq_eq_true e)
    have hle : Nat.ble (i * size + (l.length - i) * size) (blC enc l).length = true := by
      rw [len_blC hk, ← Nat.add_mul, Nat.ble_eq]
      exact Nat.mul_le_mul_right _ (by omega)
    simp only [hb, if_false, List.getElem?_cons_zero, hk, Nat.beq_refl, plainB_blC, hle, Bool.not_false, Bool.and_self, if_true, Bool.false_eq_true]
    rw [zrs_rep z _ (by rw [hk]; exact h0)]
    have e1 : List.drop (i * size + (l.length - i) * size) (blC enc l) = [] := by
      apply List.drop_eq_nil_of_le
      rw [len_blC hk, ← Nat.add_mul]
      exact Nat.mul_le_mul_right _ (by omega)
    rw [e1, List.append_nil]
    unfold blC
    rw [← List.map_take, take_flat hk, ← List.map_append, ← List.flatMap_append]
    rfl

/-- A slice over a local block that is written no more. -/
theorem GivesW.freeze {F : FuncId} {args : List AV} {b lo n k : Nat} {m1 : Mm} (h : GivesW P F args m (.lsl b lo n k) m1) {ds : List CV} (hb : m1.hp[b]? = some ⟨false, ds.map .c⟩) :
    GivesW P F args m (.c (.sl false n ((ds.drop (lo * k)).take (n * k)))) { m1 with hp := m1.hp.set b ⟨true, ds.map .c⟩ } := by
  refine ⟨h.1, fun X W0 w vs M hargs => (h.2 X W0 w vs M hargs).mono ?_⟩
  rintro _ w' ⟨v, X1, rfl, k1, k2, k3⟩
  have hz : aFreeze m1 b = some { m1 with hp := m1.hp.set b ⟨true, ds.map .c⟩ } := by
    simp only [aFreeze, hb, cleans_map]
    rfl
  obtain ⟨X2, l1, l2, _⟩ := aFreeze_ok k3 hz
  have hlt := (List.getElem?_eq_some_iff.1 hb).1
  refine ⟨v, X2, rfl, k1.trans l1, ?_, l2⟩
  have k4 := k2.mono l1
  cases k4 with
  | lsl hl ho hn hcap hrm =>
    rename_i β o cap
    have hf : fixedAt { m1 with hp := m1.hp.set b ⟨true, ds.map .c⟩ } (.ptr b (lo * k)) = some (ds.drop (lo * k)) := by
      simp only [fixedAt, List.getElem?_set_self hlt, if_true, cleans_map, Option.map_some]
    obtain ⟨b', o', xs, e, r1, r2⟩ := fixedAt_rep l2 hf (.ptr hl)
    injection e with e
    injection e with e
    injection e with e1 e2
    subst e1 e2
    have q1 := r1.take (n * k)
    have q2 := r2.take (n * k)
    refine .c (.sl q1.1 q1.2 hn ⟨hcap, fun e => by cases e⟩ (fun e => by cases e) ?_)
    rcases Nat.eq_zero_or_pos cap with h0 | h0
    · have : n = 0 := by omega
      subst this
      rw [Nat.zero_mul, List.take_zero]
      exact fun j x h => by cases h
    · rw [ho h0]
      exact q2
attribute [go_sem] plainB_blC
end Go.Vs.Ab

/-
  A slice that was collected, from now on a local block; what was claimed of new cells is forgotten. No program in sight.
-/
set_option linter.unusedVariables false
set_option linter.unusedSimpArgs false
namespace Go.Vs.Ab
open Go.RowKit

variable {P : Program} {X : Mem} {W0 w w' : World} {m : Mm} {nt : Nat} {fr : Fr} {Q : Ex → Fr → Mm → Prop}

def allV : List CV → Bool
  | [] => true
  | .v _ :: r => allV r
  | .sl .. :: _ => false
/-- Needs no claim on any cell. -/
def free : AV → Bool
  | .c (.v _) => true
  | .agg cs => allV cs
  | .ptr _ _ => true
  | .mapp _ => true
  | _ => false
def frees : List AV → Bool
  | [] => true
  | c :: r => free c && frees r
def freeF : Fr → Bool
  | [] => true
  | (_, c) :: r => free c && freeF r
def freeB : List Blk → Bool
  | [] => true
  | b :: r => !b.fz && (frees b.cs && freeB r)
theorem allV_rep {C D : Nat → Nat → Option Value} : ∀ {cs : List CV} {xs : List Value}, allV cs = true → RepCs C cs xs → RepCs D cs xs := fun {cs xs} h hr => by
  refine ⟨hr.1, fun i c x h1 h2 => ?_⟩
  have key : ∀ {cs : List CV} (i : Nat) (c : CV), allV cs = true → cs[i]? = some c → ∃ v, c = .v v := fun {cs} => by
    induction cs with
    | nil => intro i c _ h; simp at h
    | cons d r ih =>
      intro i c ha hc
      cases d with
      | v x =>
        cases i with
        | zero => simp at hc; exact ⟨x, hc.symm⟩
        | succ i => exact ih i c ha (by simpa using hc)
      | sl => cases ha
  obtain ⟨v, rfl⟩ := key i c h h1
  have := hr.2 i _ x h1 h2
  cases this with
  | v h => exact .v h
theorem Rep.free {Y : Mem} {c : AV} {x : Value} (h : Rep X c x) (hf : Ab.free c = true) (hl : ∀ i β, X.loc i = some β → Y.loc i = some β) : Rep Y c x := by
  cases h with
  | c h =>
    cases h with
    | v h => exact .c (.v h)
    | sl => cases hf
  | agg h => exact .agg (allV_rep hf h)
  | ptr h => exact .ptr (hl _ _ h)
  | mapp h => exact .mapp (hl _ _ h)
  | tup => cases hf
  | own => cases hf
  | cptr => cases hf
  | fn => cases hf
  | lsl => cases hf
  | ifc => cases hf
  | strc => cases hf
theorem frees_get : ∀ {cs : List AV}, frees cs = true → ∀ (k : Nat) (c : AV), cs[k]? = some c → free c = true
  | [], _, k, c, h => by simp at h
  | x :: r, h, k, c, hc => by
    simp only [frees, Bool.and_eq_true] at h
    cases k with
    | zero => simp at hc; subst hc; exact h.1
    | succ k => exact frees_get h.2 k c (by simpa using hc)
theorem freeF_find : ∀ {fr : Fr}, freeF fr = true → ∀ t c, find fr t = some c → free c = true
  | [], _, t, c, h => by cases h
  | (s, d) :: r, h, t, c, hc => by
    simp only [freeF, Bool.and_eq_true] at h
    simp only [find] at hc
    split at hc
    · injection hc with hc; subst hc; exact h.1
    · exact freeF_find h.2 t c hc
theorem freeB_get : ∀ {bs : List Blk}, freeB bs = true → ∀ (k : Nat) (b : Blk), bs[k]? = some b → b.fz = false ∧ frees b.cs = true
  | [], _, k, b, h => by simp at h
  | x :: r, h, k, b, hb => by
    simp only [freeB, Bool.and_eq_true, Bool.not_eq_true'] at h
    cases k with
    | zero => simp at hb; subst hb; exact ⟨h.1, h.2.1⟩
    | succ k => exact freeB_get h.2.2 k b (by simpa using hb)

/-- Claims on cells from base on are forgotten, rooms too. -/
def Mem.old (X : Mem) (base : Nat) : Mem := ⟨fun b o => if b < base then X.cell b o else none, X.loc, fun _ => none, X.room⟩
theorem MR.old (M : MR X W0 m w) (hb : freeB m.hp = true) : MR (X.old W0.heap.size) W0 ⟨m.hp, []⟩ w := by
  have hsub : ∀ b o x, (X.old W0.heap.size).cell b o = some x → X.cell b o = some x := fun b o x h => by
    simp only [Mem.old] at h
    split at h
    · exact h
    · cases h
  have hno : ∀ β, (∀ o, X.cell β o = none) → ∀ o, (X.old W0.heap.size).cell β o = none := fun β h o => by
    simp only [Mem.old]
    split
    · exact h o
    · rfl
  refine ⟨M.below, fun b o x h => M.cell b o x (hsub b o x h), M.ldom, fun i blk h => ?_, M.inj, fun k T h => (by cases h), fun k n h => (by simp at h), fun i j S T h => (by cases h), M.rm⟩
  obtain ⟨β, h1, h2, h3, hB⟩ := M.locs i blk h
  obtain ⟨hfz, hfr⟩ := freeB_get hb i blk h
  refine ⟨β, h1, h2, h3, ?_⟩
  cases hB with
  | dead h => exact .dead h
  | ent g1 g2 g3 g4 g5 => exact .ent g1 g2 g3 g4 (hno β g5)
  | cells g1 g2 g3 g4 g5 =>
    refine .cells g1 g2 ⟨g3.1, fun k c x q1 q2 => (g3.2 k c x q1 q2).free (frees_get hfr k c q1) fun _ _ h => h⟩ (fun e => by rw [hfz] at e; cases e) (fun e => hno β (g5 e))

theorem tr_thaw {c : Code} {s k n : Nat} {cs : List CV} {xs : List Value} {e : TypeId} {size : Nat} {fr0 : Fr} (hf : find fr s = some (.own k n cs)) (hk : m.hw[k]? = some ⟨n, e, size⟩) (hv : vals cs = some xs) (hs : SubF fr0 fr) (hc : freeF fr0 = true) (hb : freeB m.hp = true)
    (h : Tr cle P nt c ((s, .lsl m.hp.length 0 n size) :: fr0) ⟨m.hp ++ [⟨false, cs.map .c⟩], []⟩ Q) : Tr cle P nt c fr m Q := fun X W0 w a F M => by
  obtain ⟨v, hv1, hv2⟩ := F.slot s _ hf
  obtain ⟨T, t1, ⟨t2, t2e, t2s⟩, t3, t4, t5, t6, ⟨cur, t7, t8⟩, t9, t10⟩ := M.toks k _ hk
  simp only at t2 t2e t2s
  cases hv2 with
  | own hr hn1 hcap hx ht =>
    rename_i ys a0 cap
    obtain ⟨T', u1, u2, u3⟩ := ht
    rw [t1] at u1
    injection u1 with u1
    subst u1
    obtain ⟨rfl, rfl⟩ := u3 t2.symm
    have hcurj : ∀ (j : Nat) (x : Value), ys[j]? = some x → cur[j]? = some x := fun j x hj => by
      obtain ⟨b, o, e1, e2⟩ := hx j x hj
      injection e1 with e1
      injection e1 with e1 e3
      subst e1 e3
      have h5 := M.cell _ _ _ e2
      rw [Nat.zero_add] at h5
      simp only [World.cell?, t7] at h5
      simpa using h5
    have hlen : cs.length ≤ cur.size := by
      rcases Nat.eq_zero_or_pos cs.length with h0 | h0
      · omega
      · have hl : cs.length - 1 < ys.length := by rw [← hr.1]; omega
        have := hcurj _ _ (List.getElem?_eq_getElem hl)
        have := (Array.getElem?_eq_some_iff.1 this).1
        omega
    have hrp : Reps (X.old W0.heap.size) (cs.map .c) (cur.toList.take (cs.map AV.c).length) := by
      rw [List.length_map]
      refine ⟨by rw [List.length_map, List.length_take]; simp only [Array.length_toList]; omega, fun i c x h1 h2 => ?_⟩
      rw [List.getElem?_map, Option.map_eq_some_iff] at h1
      obtain ⟨c0, h1, rfl⟩ := h1
      have hi := (List.getElem?_eq_some_iff.1 h1).1
      rw [List.getElem?_take, if_pos hi, Array.getElem?_toList] at h2
      obtain ⟨x0, rfl, _⟩ := vals_getv hv i c0 h1
      have hl : i < ys.length := by rw [← hr.1]; exact hi
      have h3 := hcurj i _ (List.getElem?_eq_getElem hl)
      rw [h2] at h3
      injection h3 with h3
      have h4 := hr.2 i _ _ h1 (List.getElem?_eq_getElem hl)
      rw [← h3] at h4
      cases h4 with
      | v h5 => exact .c (.v h5)
    have hroom : (X.old W0.heap.size).room T.g ≤ T.cap * T.size := by
      show X.room T.g ≤ _
      rcases Nat.eq_zero_or_pos (X.room T.g) with h0 | h0
      · omega
      · obtain ⟨ar, tt, q1, q2⟩ := M.rm T.g h0
        rw [t7] at q1
        injection q1 with q1
        injection q1 with q1 q3
        subst q1
        omega
    obtain ⟨A, hle⟩ := (M.old hb).adopt (β := T.g) (R := T.cap * T.size) (cs := cs.map .c) t3 (fun o => by simp only [Mem.old]; rw [if_neg (by omega)]) t10 (fun k S hS => by cases hS) t7 (by rw [List.length_map]; exact hlen) hrp hroom (by rw [t8]; exact Nat.le_refl _)
    have hXY : cle W0.heap.size X ((X.old W0.heap.size).adopt m.hp.length T.g (T.cap * T.size)) := by
      refine ⟨fun b o x hb hx => ?_, fun b o x hb hx => ?_, hle.loc, hle.room⟩
      · simp only [Mem.adopt, Mem.old]
        rw [if_pos hb]
        exact hx
      · simp only [Mem.adopt, Mem.old] at hx
        rw [if_pos hb] at hx
        exact hx
    have F' : FR ((X.old W0.heap.size).adopt m.hp.length T.g (T.cap * T.size)) nt ((s, .lsl m.hp.length 0 n size) :: fr0) a := by
      refine ⟨F.size, F.defers, fun t c' hc' => ?_⟩
      simp only [find] at hc'
      split at hc'
      · rename_i est
        have est := Nat.eq_of_beq_eq_true est
        subst est
        injection hc' with hc'
        subst hc'
        refine ⟨_, hv1, .lsl (by simp [Mem.adopt]) (fun _ => by rw [Nat.zero_mul]) hn1 hcap.1 ?_⟩
        simp only [Mem.adopt, if_true]
        rw [t2s, Nat.zero_add]
        exact Nat.le_refl _
      · obtain ⟨x, p1, p2⟩ := F.slot t c' (hs.spec t c' hc')
        exact ⟨x, p1, p2.free (freeF_find hc t c' hc') hle.loc⟩
    refine wp_mono (h _ W0 w a F' A) ?_
    rintro _ a' w' ⟨ex, fr', m', X', rfl, hq, k1, k2, k3⟩
    exact ⟨ex, fr', m', X', rfl, hq, RelOk.trans hXY k1, k2, k3⟩

theorem lsl_closed {b lo n k : Nat} {ds : List CV} {v : Value} (l2 : MR X W0 { m with hp := m.hp.set b ⟨true, ds.map .c⟩ } w) (hlt : b < m.hp.length) (k4 : Rep X (.lsl b lo n k) v) : Rep X (.c (.sl false n ((ds.drop (lo * k)).take (n * k)))) v := by
  cases k4 with
  | lsl hl ho hn hcap hrm =>
    rename_i β o cap
    have hf : fixedAt { m with hp := m.hp.set b ⟨true, ds.map .c⟩ } (.ptr b (lo * k)) = some (ds.drop (lo * k)) := by
      simp only [fixedAt, List.getElem?_set_self hlt, if_true, cleans_map, Option.map_some]
    obtain ⟨b', o', xs, e, r1, r2⟩ := fixedAt_rep l2 hf (.ptr hl)
    injection e with e
    injection e with e
    injection e with e1 e2
    subst e1 e2
    have q1 := r1.take (n * k)
    have q2 := r2.take (n * k)
    refine .c (.sl q1.1 q1.2 hn ⟨hcap, fun e => by cases e⟩ (fun e => by cases e) ?_)
    rcases Nat.eq_zero_or_pos cap with h0 | h0
    · have : n = 0 := by omega
      subst this
      rw [Nat.zero_mul, List.take_zero]
      exact fun j x h => by cases h
    · rw [ho h0]
      exact q2
/-- A slice over a local block that is written no more. -/
theorem tr_frz {R : MRel} [hR : RelOk R] {c : Code} {s b lo n k : Nat} {ds : List CV} (hf : find fr s = some (.lsl b lo n k)) (hb : m.hp[b]? = some ⟨false, ds.map .c⟩)
    (h : Tr R P nt c ((s, .c (.sl false n ((ds.drop (lo * k)).take (n * k)))) :: fr) { m with hp := m.hp.set b ⟨true, ds.map .c⟩ } Q) : Tr R P nt c fr m Q := fun X W0 w a F M => by
  have hz : aFreeze m b = some { m with hp := m.hp.set b ⟨true, ds.map .c⟩ } := by
    simp only [aFreeze, hb, cleans_map]
    rfl
  obtain ⟨X2, l1, l2, _⟩ := aFreeze_ok M hz
  have hlt := (List.getElem?_eq_some_iff.1 hb).1
  have F' : FR X2 nt ((s, .c (.sl false n ((ds.drop (lo * k)).take (n * k)))) :: fr) a := by
    refine ⟨F.size, F.defers, fun t c' hc' => ?_⟩
    simp only [find] at hc'
    split at hc'
    · rename_i est
      have est := Nat.eq_of_beq_eq_true est
      subst est
      injection hc' with hc'
      subst hc'
      obtain ⟨v, p1, p2⟩ := F.slot s _ hf
      exact ⟨v, p1, lsl_closed l2 hlt (p2.mono l1)⟩
    · obtain ⟨x, p1, p2⟩ := F.slot t c' hc'
      exact ⟨x, p1, p2.mono l1⟩
  refine wp_mono (h X2 W0 w a F' l2) ?_
  rintro _ a' w' ⟨ex, fr', m', X', rfl, hq, k1, k2, k3⟩
  exact ⟨ex, fr', m', X', rfl, hq, hR.trans (hR.of l1) k1, k2, k3⟩
end Go.Vs.Ab

/-
  Chapter 2: what is shared: numbers, Pick; slices of numbers over local blocks: Len, Less, Swap.
-/
set_option linter.unusedSimpArgs false
set_option linter.unusedVariables false
namespace Go.Proofs.Ytlhlcfijpdknfaa
open Go.Vs Go.Vs.Ab Go.Vs.Hp
set_option maxRecDepth 100000
set_option maxHeartbeats 4000000

theorem wrap_in {n : Int} (h : -9223372036854775808 ≤ n ∧ n ≤ 9223372036854775807) : IntKind.i64.wrap n = n := Go.IntWalk.i64_in _ h
theorem wrap_succ {k : Nat} (h : k ≤ 1000000000) : IntKind.i64.wrap ((k : Int) + 1) = ((k + 1 : Nat) : Int) := by rw [wrap_in (by omega)]; omega
theorem wrap_pred {k : Nat} (h0 : 0 < k) (h : k ≤ 1000000000) : IntKind.i64.wrap ((k : Int) - 1) = ((k - 1 : Nat) : Int) := by rw [wrap_in (by omega)]; omega
theorem dec_true {p : Prop} [Decidable p] (h : p) : decide p = true := decide_eq_true h
theorem dec_false {p : Prop} [Decidable p] (h : ¬ p) : decide p = false := decide_eq_false h
theorem bb1 : (true == false) = false := rfl
theorem bb2 : (false == true) = false := rfl
attribute [go_sem] bb1 bb2 stC List.flatMap_cons List.flatMap_nil
def pickN (n m : Int) : Int := if m < 1 then 0 else if n.tmod m < 0 then n.tmod m + m else n.tmod m
theorem pickN_in (n : Int) {m : Int} (h : 1 ≤ m) : 0 ≤ pickN n m ∧ pickN n m < m := by
  unfold pickN
  rw [if_neg (by omega)]
  have h1 := Int.tmod_lt_of_pos n (show 0 < m by omega)
  have h2 := Int.lt_tmod_of_pos n (show 0 < m by omega)
  split <;> omega
theorem pick_does (n m : Int) (hm : m ≤ 1000000000) : Does Try.prog 8 [iA n, iA m] (fun w => (iA (pickN n m), w)) := by
  cases h1 : decide (m < 1) with
  | true =>
    have hr : pickN n m = 0 := by unfold pickN; rw [if_pos (of_decide_eq_true h1)]
    refine does_of' Try.func8 rfl (by kernel_rfl) rfl Try.ntmps8 rfl rfl fun Q hQ => ?_
    repeat (first
        | refine tr_seq_k fun _ _ => ?_
        | (refine tr_region ?_; simp only [go_sem, List.getElem?_toArray, str_beq, reduceCtorEq, Nat.reduceEqDiff, Nat.reduceLT, Nat.reduceLeDiff, Nat.reduceAdd, Nat.reduceMul, Nat.reduceSub, Nat.reduceBEq, ↓reduceIte, bne_self_eq_false, Bool.and_false, Bool.false_and, Bool.true_or, Bool.false_or, h1])
        | refine k_of (by assumption) ?_
        | refine tr_block ?_
        | refine tr_scope ?_
        | (refine tr_skip ?_; try simp only [ex_seq, ex_block])
        | (refine tr_label ?_; try simp only [ex_seq, ex_block])
        | (refine tr_exit ?_; try simp only [ex_seq_exit, ex_block_exit, Nat.reduceEqDiff, if_true, if_false, ex_seq, ex_block, reduceCtorEq, ↓reduceIte])
        | (refine tr_ret ?_; try simp only [ex_seq_ret, ex_block_ret]))
    refine tr_cond rfl (fun ht => ?_) (fun hf => ?_)
    · repeat (first
          | refine tr_seq_k fun _ _ => ?_
          | (refine tr_region ?_; simp only [go_sem, List.getElem?_toArray, str_beq, reduceCtorEq, Nat.reduceEqDiff, Nat.reduceLT, Nat.reduceLeDiff, Nat.reduceAdd, Nat.reduceMul, Nat.reduceSub, Nat.reduceBEq, ↓reduceIte, bne_self_eq_false, Bool.and_false, Bool.false_and, Bool.true_or, Bool.false_or])
          | refine k_of (by assumption) ?_
          | refine tr_block ?_
          | refine tr_scope ?_
          | (refine tr_skip ?_; try simp only [ex_seq, ex_block])
          | (refine tr_label ?_; try simp only [ex_seq, ex_block])
          | (refine tr_exit ?_; try simp only [ex_seq_exit, ex_block_exit, Nat.reduceEqDiff, if_true, if_false, ex_seq, ex_block, reduceCtorEq, ↓reduceIte])
          | (refine tr_ret ?_; try simp only [ex_seq_ret, ex_block_ret]))
      refine (hQ _ _ [iA 0] ?_ (fun m => ?_)).2 <;> simp only [go_sem, List.getElem?_toArray, str_beq, reduceCtorEq, Nat.reduceEqDiff, Nat.reduceLT, Nat.reduceLeDiff, Nat.reduceAdd, Nat.reduceMul, Nat.reduceSub, Nat.reduceBEq, ↓reduceIte, bne_self_eq_false, Bool.and_false, Bool.false_and, Bool.true_or, Bool.false_or, Try.f8, hr]
    · cases hf
  | false =>
    have hm1 : 1 ≤ m := by
      have := of_decide_eq_false h1
      omega
    have hq : ¬ m = 0 := by omega
    cases h2 : decide (n.tmod m < 0) with
    | true =>
      have hr : pickN n m = n.tmod m + m := by unfold pickN; rw [if_neg (of_decide_eq_false h1), if_pos (of_decide_eq_true h2)]
      have hb := pickN_in n hm1
      have hw : IntKind.i64.wrap (n.tmod m + m) = n.tmod m + m := wrap_in (by omega)
      refine does_of' Try.func8 rfl (by kernel_rfl) rfl Try.ntmps8 rfl rfl fun Q hQ => ?_
      repeat (first
          | refine tr_seq_k fun _ _ => ?_
          | (refine tr_region ?_; simp only [go_sem, List.getElem?_toArray, str_beq, reduceCtorEq, Nat.reduceEqDiff, Nat.reduceLT, Nat.reduceLeDiff, Nat.reduceAdd, Nat.reduceMul, Nat.reduceSub, Nat.reduceBEq, ↓reduceIte, bne_self_eq_false, Bool.and_false, Bool.false_and, Bool.true_or, Bool.false_or, h1, hq])
          | refine k_of (by assumption) ?_
          | refine tr_block ?_
          | refine tr_scope ?_
          | (refine tr_skip ?_; try simp only [ex_seq, ex_block])
          | (refine tr_label ?_; try simp only [ex_seq, ex_block])
          | (refine tr_exit ?_; try simp only [ex_seq_exit, ex_block_exit, Nat.reduceEqDiff, if_true, if_false, ex_seq, ex_block, reduceCtorEq, ↓reduceIte])
          | (refine tr_ret ?_; try simp only [ex_seq_ret, ex_block_ret]))
      refine tr_cond rfl (fun ht => ?_) (fun hf => ?_)
      · cases ht
      · repeat (first
            | refine tr_seq_k fun _ _ => ?_
            | (refine tr_region ?_; simp only [go_sem, List.getElem?_toArray, str_beq, reduceCtorEq, Nat.reduceEqDiff, Nat.reduceLT, Nat.reduceLeDiff, Nat.reduceAdd, Nat.reduceMul, Nat.reduceSub, Nat.reduceBEq, ↓reduceIte, bne_self_eq_false, Bool.and_false, Bool.false_and, Bool.true_or, Bool.false_or, h1, hq, h2])
            | refine k_of (by assumption) ?_
            | refine tr_block ?_
            | refine tr_scope ?_
            | (refine tr_skip ?_; try simp only [ex_seq, ex_block])
            | (refine tr_label ?_; try simp only [ex_seq, ex_block])
            | (refine tr_exit ?_; try simp only [ex_seq_exit, ex_block_exit, Nat.reduceEqDiff, if_true, if_false, ex_seq, ex_block, reduceCtorEq, ↓reduceIte])
            | (refine tr_ret ?_; try simp only [ex_seq_ret, ex_block_ret]))
        refine tr_cond rfl (fun ht => ?_) (fun hf => ?_)
        · repeat (first
              | refine tr_seq_k fun _ _ => ?_
              | (refine tr_region ?_; simp only [go_sem, List.getElem?_toArray, str_beq, reduceCtorEq, Nat.reduceEqDiff, Nat.reduceLT, Nat.reduceLeDiff, Nat.reduceAdd, Nat.reduceMul, Nat.reduceSub, Nat.reduceBEq, ↓reduceIte, bne_self_eq_false, Bool.and_false, Bool.false_and, Bool.true_or, Bool.false_or, hw])
              | refine k_of (by assumption) ?_
              | refine tr_block ?_
              | refine tr_scope ?_
              | (refine tr_skip ?_; try simp only [ex_seq, ex_block])
              | (refine tr_label ?_; try simp only [ex_seq, ex_block])
              | (refine tr_exit ?_; try simp only [ex_seq_exit, ex_block_exit, Nat.reduceEqDiff, if_true, if_false, ex_seq, ex_block, reduceCtorEq, ↓reduceIte])
              | (refine tr_ret ?_; try simp only [ex_seq_ret, ex_block_ret]))
          refine (hQ _ _ [iA (n.tmod m + m)] ?_ (fun m => ?_)).2 <;> simp only [go_sem, List.getElem?_toArray, str_beq, reduceCtorEq, Nat.reduceEqDiff, Nat.reduceLT, Nat.reduceLeDiff, Nat.reduceAdd, Nat.reduceMul, Nat.reduceSub, Nat.reduceBEq, ↓reduceIte, bne_self_eq_false, Bool.and_false, Bool.false_and, Bool.true_or, Bool.false_or, Try.f8, hr]
        · cases hf
    | false =>
      have hr : pickN n m = n.tmod m := by unfold pickN; rw [if_neg (of_decide_eq_false h1), if_neg (of_decide_eq_false h2)]
      refine does_of' Try.func8 rfl (by kernel_rfl) rfl Try.ntmps8 rfl rfl fun Q hQ => ?_
      repeat (first
          | refine tr_seq_k fun _ _ => ?_
          | (refine tr_region ?_; simp only [go_sem, List.getElem?_toArray, str_beq, reduceCtorEq, Nat.reduceEqDiff, Nat.reduceLT, Nat.reduceLeDiff, Nat.reduceAdd, Nat.reduceMul, Nat.reduceSub, Nat.reduceBEq, ↓reduceIte, bne_self_eq_false, Bool.and_false, Bool.false_and, Bool.true_or, Bool.false_or, h1, hq])
          | refine k_of (by assumption) ?_
          | refine tr_block ?_
          | refine tr_scope ?_
          | (refine tr_skip ?_; try simp only [ex_seq, ex_block])
          | (refine tr_label ?_; try simp only [ex_seq, ex_block])
          | (refine tr_exit ?_; try simp only [ex_seq_exit, ex_block_exit, Nat.reduceEqDiff, if_true, if_false, ex_seq, ex_block, reduceCtorEq, ↓reduceIte])
          | (refine tr_ret ?_; try simp only [ex_seq_ret, ex_block_ret]))
      refine tr_cond rfl (fun ht => ?_) (fun hf => ?_)
      · cases ht
      · repeat (first
            | refine tr_seq_k fun _ _ => ?_
            | (refine tr_region ?_; simp only [go_sem, List.getElem?_toArray, str_beq, reduceCtorEq, Nat.reduceEqDiff, Nat.reduceLT, Nat.reduceLeDiff, Nat.reduceAdd, Nat.reduceMul, Nat.reduceSub, Nat.reduceBEq, ↓reduceIte, bne_self_eq_false, Bool.and_false, Bool.false_and, Bool.true_or, Bool.false_or, h1, hq, h2])
            | refine k_of (by assumption) ?_
            | refine tr_block ?_
            | refine tr_scope ?_
            | (refine tr_skip ?_; try simp only [ex_seq, ex_block])
            | (refine tr_label ?_; try simp only [ex_seq, ex_block])
            | (refine tr_exit ?_; try simp only [ex_seq_exit, ex_block_exit, Nat.reduceEqDiff, if_true, if_false, ex_seq, ex_block, reduceCtorEq, ↓reduceIte])
            | (refine tr_ret ?_; try simp only [ex_seq_ret, ex_block_ret]))
        refine tr_cond rfl (fun ht => ?_) (fun hf => ?_)
        · cases ht
        · repeat (first
              | refine tr_seq_k fun _ _ => ?_
              | (refine tr_region ?_; simp only [go_sem, List.getElem?_toArray, str_beq, reduceCtorEq, Nat.reduceEqDiff, Nat.reduceLT, Nat.reduceLeDiff, Nat.reduceAdd, Nat.reduceMul, Nat.reduceSub, Nat.reduceBEq, ↓reduceIte, bne_self_eq_false, Bool.and_false, Bool.false_and, Bool.true_or, Bool.false_or])
              | refine k_of (by assumption) ?_
              | refine tr_block ?_
              | refine tr_scope ?_
              | (refine tr_skip ?_; try simp only [ex_seq, ex_block])
              | (refine tr_label ?_; try simp only [ex_seq, ex_block])
              | (refine tr_exit ?_; try simp only [ex_seq_exit, ex_block_exit, Nat.reduceEqDiff, if_true, if_false, ex_seq, ex_block, reduceCtorEq, ↓reduceIte])
              | (refine tr_ret ?_; try simp only [ex_seq_ret, ex_block_ret]))
          refine (hQ _ _ [iA (n.tmod m)] ?_ (fun m => ?_)).2 <;> simp only [go_sem, List.getElem?_toArray, str_beq, reduceCtorEq, Nat.reduceEqDiff, Nat.reduceLT, Nat.reduceLeDiff, Nat.reduceAdd, Nat.reduceMul, Nat.reduceSub, Nat.reduceBEq, ↓reduceIte, bne_self_eq_false, Bool.and_false, Bool.false_and, Bool.true_or, Bool.false_or, Try.f8, hr]

/-! ### numbers over a local block -/
def inC (n : Int) : List CV := [.v (.int .i64 n)]
def inB (l : List Int) : Blk := ⟨false, blC inC l⟩
theorem in_get {l : List Int} {i : Nat} (h : i < l.length) : (blC inC l)[i]? = some (iA l[i]) := by
  unfold blC
  have e : ∀ l : List Int, (l.flatMap inC).map AV.c = l.map iA := fun l => by
    induction l with
    | nil => rfl
    | cons x l ih => simp only [List.flatMap_cons, List.map_append, ih]; rfl
  rw [e, List.getElem?_map, List.getElem?_eq_getElem h]
  rfl
theorem in_len (l : List Int) : (blC inC l).length = l.length := by rw [len_blC (size := 1) (fun _ => rfl), Nat.mul_one]
theorem in_set {l : List Int} {i : Nat} (h : i < l.length) (x : Int) : List.take i (blC inC l) ++ [iA x] ++ List.drop (i + 1) (blC inC l) = blC inC (l.set i x) := by
  have := set_blC (enc := inC) (size := 1) (fun _ => rfl) h x
  rw [Nat.mul_one] at this
  exact this
theorem in_idx {t : TypeId} (ht : Try.prog.underlying t = some (.slice 3)) {b n i : Nat} (h : i < n) : aIndexL Try.prog t (.lsl b 0 n 1) (iA i) = some (.ptr b i) := by
  have := idxL (P := Try.prog) (size := 1) ht sz3 (by decide) (b := b) (lo := 0) (ik := .i64) h
  simpa using this
theorem in_fit {l : List Int} {i : Nat} (h : i < l.length) : (i + 1 ≤ (blC inC l).length) = True := eq_true (by rw [in_len]; omega)

theorem len_gives (m : Mm) (b n : Nat) : GivesW Try.prog 29 [.lsl b 0 n 1] m (iA n) m := by
  refine givesW_of' Try.func29 rfl (by kernel_rfl) Try.ntmps29 rfl rfl fun Q hQ => ?_
  repeat (first
      | refine tr_seq_k fun _ _ => ?_
      | (refine tr_region ?_; simp only [go_sem, List.getElem?_toArray, str_beq, reduceCtorEq, Nat.reduceEqDiff, Nat.reduceLT, Nat.reduceLeDiff, Nat.reduceAdd, Nat.reduceMul, Nat.reduceSub, Nat.reduceBEq, ↓reduceIte, bne_self_eq_false, Bool.and_false, Bool.false_and, Bool.true_or, Bool.false_or])
      | refine k_of (by assumption) ?_
      | refine tr_block ?_
      | refine tr_scope ?_
      | (refine tr_skip ?_; try simp only [ex_seq, ex_block])
      | (refine tr_label ?_; try simp only [ex_seq, ex_block])
      | (refine tr_exit ?_; try simp only [ex_seq_exit, ex_block_exit, Nat.reduceEqDiff, if_true, if_false, ex_seq, ex_block, reduceCtorEq, ↓reduceIte])
      | (refine tr_ret ?_; try simp only [ex_seq_ret, ex_block_ret]))
  refine (hQ _ _ [iA n] ?_ rfl rfl).2 <;> simp only [go_sem, List.getElem?_toArray, str_beq, reduceCtorEq, Nat.reduceEqDiff, Nat.reduceLT, Nat.reduceLeDiff, Nat.reduceAdd, Nat.reduceMul, Nat.reduceSub, Nat.reduceBEq, ↓reduceIte, bne_self_eq_false, Bool.and_false, Bool.false_and, Bool.true_or, Bool.false_or, Try.f29]
theorem lenN_gives (m : Mm) : GivesW Try.prog 29 [.c (.sl true 0 [])] m (iA ((0 : Nat) : Int)) m := by
  refine givesW_of' Try.func29 rfl (by kernel_rfl) Try.ntmps29 rfl rfl fun Q hQ => ?_
  repeat (first
      | refine tr_seq_k fun _ _ => ?_
      | (refine tr_region ?_; simp only [go_sem, List.getElem?_toArray, str_beq, reduceCtorEq, Nat.reduceEqDiff, Nat.reduceLT, Nat.reduceLeDiff, Nat.reduceAdd, Nat.reduceMul, Nat.reduceSub, Nat.reduceBEq, ↓reduceIte, bne_self_eq_false, Bool.and_false, Bool.false_and, Bool.true_or, Bool.false_or])
      | refine k_of (by assumption) ?_
      | refine tr_block ?_
      | refine tr_scope ?_
      | (refine tr_skip ?_; try simp only [ex_seq, ex_block])
      | (refine tr_label ?_; try simp only [ex_seq, ex_block])
      | (refine tr_exit ?_; try simp only [ex_seq_exit, ex_block_exit, Nat.reduceEqDiff, if_true, if_false, ex_seq, ex_block, reduceCtorEq, ↓reduceIte])
      | (refine tr_ret ?_; try simp only [ex_seq_ret, ex_block_ret]))
  refine (hQ _ _ [iA ((0 : Nat) : Int)] ?_ rfl rfl).2 <;> simp only [go_sem, List.getElem?_toArray, str_beq, reduceCtorEq, Nat.reduceEqDiff, Nat.reduceLT, Nat.reduceLeDiff, Nat.reduceAdd, Nat.reduceMul, Nat.reduceSub, Nat.reduceBEq, ↓reduceIte, bne_self_eq_false, Bool.and_false, Bool.false_and, Bool.true_or, Bool.false_or, Try.f29]
theorem less_gives {m : Mm} {b n : Nat} {l : List Int} (hb : m.hp[b]? = some (inB l)) (hn : n ≤ l.length) {i k : Nat} (hi : i < n) (hk : k < n) :
    GivesW Try.prog 79 [.lsl b 0 n 1, iA i, iA k] m (bA (decide (l[i] < l[k]))) m := by
  have i1 := in_idx Try.underlying58 (b := b) hi
  have i2 := in_idx Try.underlying58 (b := b) hk
  have g1 := in_get (l := l) (i := i) (by omega)
  have g2 := in_get (l := l) (i := k) (by omega)
  refine givesW_of' Try.func79 rfl (by kernel_rfl) Try.ntmps79 rfl rfl fun Q hQ => ?_
  repeat (first
      | refine tr_seq_k fun _ _ => ?_
      | (refine tr_region ?_; simp only [go_sem, List.getElem?_toArray, str_beq, reduceCtorEq, Nat.reduceEqDiff, Nat.reduceLT, Nat.reduceLeDiff, Nat.reduceAdd, Nat.reduceMul, Nat.reduceSub, Nat.reduceBEq, ↓reduceIte, bne_self_eq_false, Bool.and_false, Bool.false_and, Bool.true_or, Bool.false_or, i1, i2, hb, inB, g1, g2])
      | (refine tr_drawC (id := 1) follows 10000 (by kernel_rfl) ?_; simp only [go_sem, List.getElem?_toArray, str_beq, reduceCtorEq, Nat.reduceEqDiff, Nat.reduceLT, Nat.reduceLeDiff, Nat.reduceAdd, Nat.reduceMul, Nat.reduceSub, Nat.reduceBEq, ↓reduceIte, bne_self_eq_false, Bool.and_false, Bool.false_and, Bool.true_or, Bool.false_or, i1, i2, hb, inB, g1, g2])
      | refine k_of (by assumption) ?_
      | refine tr_block ?_
      | refine tr_scope ?_
      | (refine tr_skip ?_; try simp only [ex_seq, ex_block])
      | (refine tr_label ?_; try simp only [ex_seq, ex_block])
      | (refine tr_exit ?_; try simp only [ex_seq_exit, ex_block_exit, Nat.reduceEqDiff, if_true, if_false, ex_seq, ex_block, reduceCtorEq, ↓reduceIte])
      | (refine tr_ret ?_; try simp only [ex_seq_ret, ex_block_ret]))
  refine (hQ _ _ [bA (decide (l[i] < l[k]))] ?_ rfl rfl).2 <;> simp only [go_sem, List.getElem?_toArray, str_beq, reduceCtorEq, Nat.reduceEqDiff, Nat.reduceLT, Nat.reduceLeDiff, Nat.reduceAdd, Nat.reduceMul, Nat.reduceSub, Nat.reduceBEq, ↓reduceIte, bne_self_eq_false, Bool.and_false, Bool.false_and, Bool.true_or, Bool.false_or, Try.f79]
theorem swap_gives {m : Mm} {b n : Nat} {l : List Int} (hb : m.hp[b]? = some (inB l)) (hn : n ≤ l.length) {i k : Nat} (hi : i < n) (hk : k < n) :
    GivesW Try.prog 82 [.lsl b 0 n 1, iA i, iA k] m (.tup []) { m with hp := m.hp.set b (inB (swapL l i k)) } := by
  have i1 := in_idx Try.underlying58 (b := b) hi
  have i2 := in_idx Try.underlying58 (b := b) hk
  have g1 := in_get (l := l) (i := i) (by omega)
  have g2 := in_get (l := l) (i := k) (by omega)
  have hbl := (List.getElem?_eq_some_iff.1 hb).1
  have hbs : ∀ x, (m.hp.set b x)[b]? = some x := fun x => List.getElem?_set_self hbl
  have s1 := in_set (l := l) (i := i) (by omega)
  have s2 := in_set (l := l.set i l[k]) (i := k) (by simp; omega)
  have f1 := in_fit (l := l) (i := i) (by omega)
  have f2 := in_fit (l := l.set i l[k]) (i := k) (by simp; omega)
  have e : (l.set i l[k]).set k l[i] = swapL l i k := by
    unfold swapL
    rw [List.getD_eq_getElem?_getD, List.getD_eq_getElem?_getD, List.getElem?_eq_getElem (show i < l.length by omega), List.getElem?_eq_getElem (show k < l.length by omega)]
    rfl
  refine givesW_of' Try.func82 rfl (by kernel_rfl) Try.ntmps82 rfl rfl fun Q hQ => ?_
  repeat (first
      | refine tr_seq_k fun _ _ => ?_
      | (refine tr_region ?_; simp only [go_sem, List.getElem?_toArray, str_beq, reduceCtorEq, Nat.reduceEqDiff, Nat.reduceLT, Nat.reduceLeDiff, Nat.reduceAdd, Nat.reduceMul, Nat.reduceSub, Nat.reduceBEq, ↓reduceIte, bne_self_eq_false, Bool.and_false, Bool.false_and, Bool.true_or, Bool.false_or, i1, i2, hb, inB, g1, g2, s1, f1, hbs, s2, f2, List.set_set])
      | (refine tr_drawS (id := 0) follows 13 [.op 13, .op 14, .op 15] (by kernel_rfl) ?_; simp only [go_sem, List.getElem?_toArray, str_beq, reduceCtorEq, Nat.reduceEqDiff, Nat.reduceLT, Nat.reduceLeDiff, Nat.reduceAdd, Nat.reduceMul, Nat.reduceSub, Nat.reduceBEq, ↓reduceIte, bne_self_eq_false, Bool.and_false, Bool.false_and, Bool.true_or, Bool.false_or, i1, i2, hb, inB, g1, g2, s1, f1, hbs, s2, f2, List.set_set])
      | refine k_of (by assumption) ?_
      | refine tr_block ?_
      | refine tr_scope ?_
      | (refine tr_skip ?_; try simp only [ex_seq, ex_block])
      | (refine tr_label ?_; try simp only [ex_seq, ex_block])
      | (refine tr_exit ?_; try simp only [ex_seq_exit, ex_block_exit, Nat.reduceEqDiff, if_true, if_false, ex_seq, ex_block, reduceCtorEq, ↓reduceIte])
      | (refine tr_ret ?_; try simp only [ex_seq_ret, ex_block_ret]))
  refine (hQ _ _ [] rfl ?_ ?_).1
  · rfl
  · rw [e]
    rfl
end Go.Proofs.Ytlhlcfijpdknfaa

/-
  Chapter 2: container/heap over a slice of numbers: down, up.
-/
set_option linter.unusedSimpArgs false
set_option linter.unusedVariables false
namespace Go.Proofs.Ytlhlcfijpdknfaa
open Go.Vs Go.Vs.Ab Go.Vs.Hp
set_option maxRecDepth 100000
set_option maxHeartbeats 4000000

theorem mr_len : mRow Try.prog 67 "Len" = some (29, some (60, 0, 58)) := by kernel_rfl
theorem mr_less : mRow Try.prog 67 "Less" = some (79, some (60, 0, 58)) := by kernel_rfl
theorem mr_swap : mRow Try.prog 67 "Swap" = some (82, some (60, 0, 58)) := by kernel_rfl
theorem mr_push : mRow Try.prog 67 "Push" = some (81, none) := by kernel_rfl
theorem mr_pop : mRow Try.prog 67 "Pop" = some (80, none) := by kernel_rfl
attribute [go_sem] mr_len mr_less mr_swap mr_push mr_pop
/-- The memory, with these numbers in block h. -/
def mS (m : Mm) (h : Nat) (L : List Int) : Mm := ⟨m.hp.set h (inB L), m.hw⟩
theorem mS_h {m : Mm} {h : Nat} (hh : h < m.hp.length) (L : List Int) : (mS m h L).hp[h]? = some (inB L) := List.getElem?_set_self hh
theorem mS_b {m : Mm} {h b : Nat} (hb : b ≠ h) (L : List Int) : (mS m h L).hp[b]? = m.hp[b]? := List.getElem?_set_ne (Ne.symm hb)
theorem mS_mS (m : Mm) (h : Nat) (L K : List Int) : (⟨(mS m h L).hp.set h (inB K), (mS m h L).hw⟩ : Mm) = mS m h K := by simp [mS]
theorem mS_self {m : Mm} {h : Nat} {L : List Int} (hh : m.hp[h]? = some (inB L)) : mS m h L = m := by
  obtain ⟨hp, hw⟩ := m
  simp only [mS, Mm.mk.injEq, and_true]
  apply List.ext_getElem?
  intro i
  rw [List.getElem?_set]
  split
  · rename_i e
    subst e
    split
    · exact hh.symm
    · rename_i hl
      rw [List.getElem?_eq_none (by simpa using hl)]
  · rfl

/-- What lies in memory leads to memory that is there. -/
def Wf (m : Mm) : Prop := lowB m.hp.length m.hw.length m.hp = true
theorem lowB_set {i j : Nat} {nb : Blk} (hn : lows i j nb.cs = true) : ∀ {l : List Blk} (k : Nat), lowB i j l = true → lowB i j (l.set k nb) = true
  | [], k, _ => by simp [lowB]
  | x :: r, 0, h => by
    simp only [lowB, Bool.and_eq_true] at h
    simp only [List.set_cons_zero, lowB, hn, h.2, Bool.and_self]
  | x :: r, k + 1, h => by
    simp only [lowB, Bool.and_eq_true] at h
    simp only [List.set_cons_succ, lowB, h.1, lowB_set hn k h.2, Bool.and_self]
theorem Wf.mS {m : Mm} (h : Wf m) (k : Nat) (L : List Int) : Wf (mS m k L) := by
  unfold Wf Go.Proofs.Ytlhlcfijpdknfaa.mS
  rw [List.length_set]
  exact lowB_set lows_blC k h
theorem mS_len (m : Mm) (h : Nat) (L : List Int) : (mS m h L).hp.length = m.hp.length := List.length_set ..
theorem getD_eq {L : List Int} {i : Nat} (h : i < L.length) : L.getD i 0 = L[i] := by
  rw [List.getD_eq_getElem?_getD, List.getElem?_eq_getElem h]
  rfl

theorem lessS {m : Mm} {h n : Nat} {L : List Int} (hh : h < m.hp.length) (hn : n ≤ L.length) {i k : Nat} (hi : i < n) (hk : k < n) :
    GivesW Try.prog 79 [.lsl h 0 n 1, iA i, iA k] (mS m h L) (bA (decide (L.getD i 0 < L.getD k 0))) (mS m h L) := by
  rw [getD_eq (show i < L.length by omega), getD_eq (show k < L.length by omega)]
  exact less_gives (mS_h hh L) hn hi hk
theorem swapS {m : Mm} {h n : Nat} {L : List Int} (hh : h < m.hp.length) (hn : n ≤ L.length) {i k : Nat} (hi : i < n) (hk : k < n) :
    GivesW Try.prog 82 [.lsl h 0 n 1, iA i, iA k] (mS m h L) (.tup []) (mS m h (swapL L i k)) := by
  have := swap_gives (mS_h hh L) hn hi hk
  rw [mS_mS] at this
  exact this

theorem down_gives {m : Mm} {h b N n : Nat} {L : List Int} {rest : List AV} (hh : h < m.hp.length) (hb : m.hp[b]? = some ⟨false, .lsl h 0 N 1 :: rest⟩) (hbh : b ≠ h) (hN : N ≤ L.length) (hn : n ≤ N) (hM : N ≤ 1000000) (hW : Wf m) :
    GivesW Try.prog 37 [.ifc 67 (.ptr b 0), iA ((0 : Nat) : Int), iA n] (mS m h L) (bA (decide (((0 : Nat) : Int) < ((downF n L 0 n).2 : Nat)))) (mS m h (downF n L 0 n).1) := by
  have hbl := (List.getElem?_eq_some_iff.1 hb).1
  refine givesW_of' Try.func37 rfl (by kernel_rfl) Try.ntmps37 rfl rfl fun Q hQ => ?_
  repeat (first
      | refine tr_seq_k fun _ _ => ?_
      | (refine tr_region ?_; simp only [go_sem, List.getElem?_toArray, str_beq, reduceCtorEq, Nat.reduceEqDiff, Nat.reduceLT, Nat.reduceLeDiff, Nat.reduceAdd, Nat.reduceMul, Nat.reduceSub, Nat.reduceBEq, ↓reduceIte, bne_self_eq_false, Bool.and_false, Bool.false_and, Bool.true_or, Bool.false_or])
      | refine k_of (by assumption) ?_
      | refine tr_block ?_
      | refine tr_scope ?_
      | (refine tr_skip ?_; try simp only [ex_seq, ex_block])
      | (refine tr_label ?_; try simp only [ex_seq, ex_block])
      | (refine tr_exit ?_; try simp only [ex_seq_exit, ex_block_exit, Nat.reduceEqDiff, if_true, if_false, ex_seq, ex_block, reduceCtorEq, ↓reduceIte])
      | (refine tr_ret ?_; try simp only [ex_seq_ret, ex_block_ret]))
  refine tr_loop_k (σ := List Int × Nat × Nat) (fun s => [(0, .ifc 67 (.ptr b 0)), (1, iA ((0 : Nat) : Int)), (2, iA n), (7, iA s.2.1)]) (fun s => mS m h s.1)
    (fun s => n ≤ s.2.2 + s.2.1 ∧ s.2.1 ≤ n ∧ s.1.length = L.length ∧ downF s.2.2 s.1 s.2.1 n = downF n L 0 n) (fun s => n - s.2.1) (L, 0, n) ⟨by dsimp only; omega, Nat.zero_le _, rfl, rfl⟩ ⟨rfl, rfl, rfl, rfl, trivial⟩ rfl ?_
  rintro ⟨L', i, f⟩ ⟨hf, hi, hl, hd⟩ K hK
  dsimp only at hf hi hl hd hK
  have w1 : IntKind.i64.wrap (2 * (i : Int)) = ((2 * i : Nat) : Int) := by rw [wrap_in (by omega)]; omega
  have w2 : IntKind.i64.wrap (((2 * i : Nat) : Int) + 1) = ((2 * i + 1 : Nat) : Int) := wrap_succ (by omega)
  have gb : (mS m h L').hp[b]? = some ⟨false, .lsl h 0 N 1 :: rest⟩ := by rw [mS_b hbh]; exact hb
  cases h1 : decide (((2 * i + 1 : Nat) : Int) ≥ (n : Int)) with
  | true =>
    have h1' : n ≤ 2 * i + 1 := by
      have := of_decide_eq_true h1
      omega
    have hR : downF n L 0 n = (L', i) := by
      rw [← hd]
      cases f with
      | zero => rfl
      | succ f => simp only [downF, h1', if_true]
    repeat (first
        | refine tr_seq_k fun _ _ => ?_
        | (refine tr_region ?_; simp only [go_sem, List.getElem?_toArray, str_beq, reduceCtorEq, Nat.reduceEqDiff, Nat.reduceLT, Nat.reduceLeDiff, Nat.reduceAdd, Nat.reduceMul, Nat.reduceSub, Nat.reduceBEq, ↓reduceIte, bne_self_eq_false, Bool.and_false, Bool.false_and, Bool.true_or, Bool.false_or, w1, w2, h1])
        | refine k_of (by assumption) ?_
        | refine tr_block ?_
        | refine tr_scope ?_
        | (refine tr_skip ?_; try simp only [ex_seq, ex_block])
        | (refine tr_label ?_; try simp only [ex_seq, ex_block])
        | (refine tr_exit ?_; try simp only [ex_seq_exit, ex_block_exit, Nat.reduceEqDiff, if_true, if_false, ex_seq, ex_block, reduceCtorEq, ↓reduceIte])
        | (refine tr_ret ?_; try simp only [ex_seq_ret, ex_block_ret]))
    refine tr_cond rfl (fun ht => ?_) (fun hf => ?_)
    · repeat (first
          | refine tr_seq_k fun _ _ => ?_
          | (refine tr_region ?_; simp only [go_sem, List.getElem?_toArray, str_beq, reduceCtorEq, Nat.reduceEqDiff, Nat.reduceLT, Nat.reduceLeDiff, Nat.reduceAdd, Nat.reduceMul, Nat.reduceSub, Nat.reduceBEq, ↓reduceIte, bne_self_eq_false, Bool.and_false, Bool.false_and, Bool.true_or, Bool.false_or])
          | refine k_of (by assumption) ?_
          | refine tr_block ?_
          | refine tr_scope ?_
          | (refine tr_skip ?_; try simp only [ex_seq, ex_block])
          | (refine tr_label ?_; try simp only [ex_seq, ex_block])
          | (refine tr_exit ?_; try simp only [ex_seq_exit, ex_block_exit, Nat.reduceEqDiff, if_true, if_false, ex_seq, ex_block, reduceCtorEq, ↓reduceIte])
          | (refine tr_ret ?_; try simp only [ex_seq_ret, ex_block_ret]))
      refine (hQ _ _ [bA (decide (((0 : Nat) : Int) < (i : Int)))] ?_ (by rw [hR]; rfl) (by rw [hR])).2 <;> simp only [go_sem, List.getElem?_toArray, str_beq, reduceCtorEq, Nat.reduceEqDiff, Nat.reduceLT, Nat.reduceLeDiff, Nat.reduceAdd, Nat.reduceMul, Nat.reduceSub, Nat.reduceBEq, ↓reduceIte, bne_self_eq_false, Bool.and_false, Bool.false_and, Bool.true_or, Bool.false_or, Try.f37]
    · cases hf
  | false =>
    have h1' : ¬ n ≤ 2 * i + 1 := by
      have := of_decide_eq_false h1
      omega
    have h0 : decide (((2 * i + 1 : Nat) : Int) < 0) = false := decide_eq_false (by omega)
    have w3 : IntKind.i64.wrap (((2 * i + 1 : Nat) : Int) + 1) = ((2 * i + 1 + 1 : Nat) : Int) := wrap_succ (by omega)
    have hfs : ∃ f', f = f' + 1 := ⟨f - 1, by omega⟩
    obtain ⟨f, rfl⟩ := hfs
    have hin : i < N := by omega
    have hj1 : 2 * i + 1 < N := by omega
    have hlN : N ≤ L'.length := by omega
    repeat (first
        | refine tr_seq_k fun _ _ => ?_
        | (refine tr_region ?_; simp only [go_sem, List.getElem?_toArray, str_beq, reduceCtorEq, Nat.reduceEqDiff, Nat.reduceLT, Nat.reduceLeDiff, Nat.reduceAdd, Nat.reduceMul, Nat.reduceSub, Nat.reduceBEq, ↓reduceIte, bne_self_eq_false, Bool.and_false, Bool.false_and, Bool.true_or, Bool.false_or, w1, w2, h1, h0])
        | refine k_of (by assumption) ?_
        | refine tr_block ?_
        | refine tr_scope ?_
        | (refine tr_skip ?_; try simp only [ex_seq, ex_block])
        | (refine tr_label ?_; try simp only [ex_seq, ex_block])
        | (refine tr_exit ?_; try simp only [ex_seq_exit, ex_block_exit, Nat.reduceEqDiff, if_true, if_false, ex_seq, ex_block, reduceCtorEq, ↓reduceIte])
        | (refine tr_ret ?_; try simp only [ex_seq_ret, ex_block_ret]))
    refine tr_cond rfl (fun ht => ?_) (fun hf => ?_)
    · cases ht
    · cases h2 : decide (((2 * i + 1 + 1 : Nat) : Int) < (n : Int)) with
      | false =>
        have h2' : ¬ 2 * i + 1 + 1 < n := by
          have := of_decide_eq_false h2
          omega
        repeat (first
            | refine tr_seq_k fun _ _ => ?_
            | (refine tr_region ?_; simp only [go_sem, List.getElem?_toArray, str_beq, reduceCtorEq, Nat.reduceEqDiff, Nat.reduceLT, Nat.reduceLeDiff, Nat.reduceAdd, Nat.reduceMul, Nat.reduceSub, Nat.reduceBEq, ↓reduceIte, bne_self_eq_false, Bool.and_false, Bool.false_and, Bool.true_or, Bool.false_or, w1, w2, w3, h2])
            | refine k_of (by assumption) ?_
            | refine tr_block ?_
            | refine tr_scope ?_
            | (refine tr_skip ?_; try simp only [ex_seq, ex_block])
            | (refine tr_label ?_; try simp only [ex_seq, ex_block])
            | (refine tr_exit ?_; try simp only [ex_seq_exit, ex_block_exit, Nat.reduceEqDiff, if_true, if_false, ex_seq, ex_block, reduceCtorEq, ↓reduceIte])
            | (refine tr_ret ?_; try simp only [ex_seq_ret, ex_block_ret]))
        refine tr_cond rfl (fun ht => ?_) (fun hf => ?_)
        · cases ht
        · have hJe : (if 2 * i + 1 + 1 < n ∧ L'.getD (2 * i + 1 + 1) 0 < L'.getD (2 * i + 1) 0 then 2 * i + 1 + 1 else 2 * i + 1) = 2 * i + 1 := if_neg (fun h => h2' h.1)
          obtain ⟨J, hJ0⟩ : ∃ J, J = 2 * i + 1 := ⟨_, rfl⟩
          have hJn : J < n := by omega
          have hiJ : i < J := by omega
          have hJe := hJe.trans hJ0.symm
          rw [← hJ0]
          repeat (first
              | refine tr_seq_k fun _ _ => ?_
              | (refine tr_region ?_; simp only [go_sem, List.getElem?_toArray, str_beq, reduceCtorEq, Nat.reduceEqDiff, Nat.reduceLT, Nat.reduceLeDiff, Nat.reduceAdd, Nat.reduceMul, Nat.reduceSub, Nat.reduceBEq, ↓reduceIte, bne_self_eq_false, Bool.and_false, Bool.false_and, Bool.true_or, Bool.false_or, gb])
              | (refine call_givesW (lessS hh hlN (show J < N by omega) hin) ?_; (try dsimp only); (try simp only [go_sem, List.getElem?_toArray, str_beq, reduceCtorEq, Nat.reduceEqDiff, Nat.reduceLT, Nat.reduceLeDiff, Nat.reduceAdd, Nat.reduceMul, Nat.reduceSub, Nat.reduceBEq, ↓reduceIte, bne_self_eq_false, Bool.and_false, Bool.false_and, Bool.true_or, Bool.false_or, gb]))
              | refine k_of (by assumption) ?_
              | refine tr_block ?_
              | refine tr_scope ?_
              | (refine tr_skip ?_; try simp only [ex_seq, ex_block])
              | (refine tr_label ?_; try simp only [ex_seq, ex_block])
              | (refine tr_exit ?_; try simp only [ex_seq_exit, ex_block_exit, Nat.reduceEqDiff, if_true, if_false, ex_seq, ex_block, reduceCtorEq, ↓reduceIte])
              | (refine tr_ret ?_; try simp only [ex_seq_ret, ex_block_ret]))
          refine tr_cond rfl (fun ht => ?_) (fun hf => ?_)
          · have hlt : ¬ L'.getD J 0 < L'.getD i 0 := by simpa using ht
            have hR : downF n L 0 n = (L', i) := by
              rw [← hd]
              simp only [downF, h1', if_false, hJe, hlt]
            repeat (first
                | refine tr_seq_k fun _ _ => ?_
                | (refine tr_region ?_; simp only [go_sem, List.getElem?_toArray, str_beq, reduceCtorEq, Nat.reduceEqDiff, Nat.reduceLT, Nat.reduceLeDiff, Nat.reduceAdd, Nat.reduceMul, Nat.reduceSub, Nat.reduceBEq, ↓reduceIte, bne_self_eq_false, Bool.and_false, Bool.false_and, Bool.true_or, Bool.false_or])
                | refine k_of (by assumption) ?_
                | refine tr_block ?_
                | refine tr_scope ?_
                | (refine tr_skip ?_; try simp only [ex_seq, ex_block])
                | (refine tr_label ?_; try simp only [ex_seq, ex_block])
                | (refine tr_exit ?_; try simp only [ex_seq_exit, ex_block_exit, Nat.reduceEqDiff, if_true, if_false, ex_seq, ex_block, reduceCtorEq, ↓reduceIte])
                | (refine tr_ret ?_; try simp only [ex_seq_ret, ex_block_ret]))
            refine (hQ _ _ [bA (decide (((0 : Nat) : Int) < (i : Int)))] ?_ (by rw [hR]; rfl) (by rw [hR])).2 <;> simp only [go_sem, List.getElem?_toArray, str_beq, reduceCtorEq, Nat.reduceEqDiff, Nat.reduceLT, Nat.reduceLeDiff, Nat.reduceAdd, Nat.reduceMul, Nat.reduceSub, Nat.reduceBEq, ↓reduceIte, bne_self_eq_false, Bool.and_false, Bool.false_and, Bool.true_or, Bool.false_or, Try.f37]
          · have hlt : L'.getD J 0 < L'.getD i 0 := by simpa using hf
            have hR : downF f (swapL L' i J) J n = downF n L 0 n := by
              rw [← hd]
              simp only [downF, h1', if_false, hJe, hlt, if_true]
            repeat (first
                | refine tr_seq_k fun _ _ => ?_
                | (refine tr_region ?_; simp only [go_sem, List.getElem?_toArray, str_beq, reduceCtorEq, Nat.reduceEqDiff, Nat.reduceLT, Nat.reduceLeDiff, Nat.reduceAdd, Nat.reduceMul, Nat.reduceSub, Nat.reduceBEq, ↓reduceIte, bne_self_eq_false, Bool.and_false, Bool.false_and, Bool.true_or, Bool.false_or, gb])
                | (refine call_givesW (swapS hh hlN hin (show J < N by omega)) ?_; (try dsimp only); (try simp only [go_sem, List.getElem?_toArray, str_beq, reduceCtorEq, Nat.reduceEqDiff, Nat.reduceLT, Nat.reduceLeDiff, Nat.reduceAdd, Nat.reduceMul, Nat.reduceSub, Nat.reduceBEq, ↓reduceIte, bne_self_eq_false, Bool.and_false, Bool.false_and, Bool.true_or, Bool.false_or, gb]))
                | refine k_of (by assumption) ?_
                | refine tr_block ?_
                | refine tr_scope ?_
                | (refine tr_skip ?_; try simp only [ex_seq, ex_block])
                | (refine tr_label ?_; try simp only [ex_seq, ex_block])
                | (refine tr_exit ?_; try simp only [ex_seq_exit, ex_block_exit, Nat.reduceEqDiff, if_true, if_false, ex_seq, ex_block, reduceCtorEq, ↓reduceIte])
                | (refine tr_ret ?_; try simp only [ex_seq_ret, ex_block_ret]))
            exact hK (swapL L' i J, J, f) _ _ ⟨by dsimp only; omega, by dsimp only; omega, by rw [swapL_len]; exact hl, hR⟩ ⟨⟨rfl, rfl, rfl, rfl, trivial⟩, Keep.refl _, by simp only [lowF, low, mS_len, Bool.and_true, Bool.true_and, Nat.blt_eq]; exact hbl, hW.mS _ _, by rw [mS_len, mS_len]; exact Nat.le_refl _, Nat.le_refl _⟩ (by dsimp only; omega)
      | true =>
        have h2' : 2 * i + 1 + 1 < n := by
          have := of_decide_eq_true h2
          omega
        repeat (first
            | refine tr_seq_k fun _ _ => ?_
            | (refine tr_region ?_; simp only [go_sem, List.getElem?_toArray, str_beq, reduceCtorEq, Nat.reduceEqDiff, Nat.reduceLT, Nat.reduceLeDiff, Nat.reduceAdd, Nat.reduceMul, Nat.reduceSub, Nat.reduceBEq, ↓reduceIte, bne_self_eq_false, Bool.and_false, Bool.false_and, Bool.true_or, Bool.false_or, w1, w2, w3, h2, gb])
            | (refine call_givesW (lessS hh hlN (show 2 * i + 1 + 1 < N by omega) hj1) ?_; (try dsimp only); (try simp only [go_sem, List.getElem?_toArray, str_beq, reduceCtorEq, Nat.reduceEqDiff, Nat.reduceLT, Nat.reduceLeDiff, Nat.reduceAdd, Nat.reduceMul, Nat.reduceSub, Nat.reduceBEq, ↓reduceIte, bne_self_eq_false, Bool.and_false, Bool.false_and, Bool.true_or, Bool.false_or, w1, w2, w3, h2, gb]))
            | refine k_of (by assumption) ?_
            | refine tr_block ?_
            | refine tr_scope ?_
            | (refine tr_skip ?_; try simp only [ex_seq, ex_block])
            | (refine tr_label ?_; try simp only [ex_seq, ex_block])
            | (refine tr_exit ?_; try simp only [ex_seq_exit, ex_block_exit, Nat.reduceEqDiff, if_true, if_false, ex_seq, ex_block, reduceCtorEq, ↓reduceIte])
            | (refine tr_ret ?_; try simp only [ex_seq_ret, ex_block_ret]))
        refine tr_cond rfl (fun ht => ?_) (fun hf => ?_)
        · have hJe : (if 2 * i + 1 + 1 < n ∧ L'.getD (2 * i + 1 + 1) 0 < L'.getD (2 * i + 1) 0 then 2 * i + 1 + 1 else 2 * i + 1) = 2 * i + 1 + 1 := if_pos ⟨h2', of_decide_eq_true ht⟩
          obtain ⟨J, hJ0⟩ : ∃ J, J = 2 * i + 1 + 1 := ⟨_, rfl⟩
          have hJn : J < n := by omega
          have hiJ : i < J := by omega
          have hJe := hJe.trans hJ0.symm
          rw [← hJ0]
          repeat (first
              | refine tr_seq_k fun _ _ => ?_
              | (refine tr_region ?_; simp only [go_sem, List.getElem?_toArray, str_beq, reduceCtorEq, Nat.reduceEqDiff, Nat.reduceLT, Nat.reduceLeDiff, Nat.reduceAdd, Nat.reduceMul, Nat.reduceSub, Nat.reduceBEq, ↓reduceIte, bne_self_eq_false, Bool.and_false, Bool.false_and, Bool.true_or, Bool.false_or, gb])
              | (refine call_givesW (lessS hh hlN (show J < N by omega) hin) ?_; (try dsimp only); (try simp only [go_sem, List.getElem?_toArray, str_beq, reduceCtorEq, Nat.reduceEqDiff, Nat.reduceLT, Nat.reduceLeDiff, Nat.reduceAdd, Nat.reduceMul, Nat.reduceSub, Nat.reduceBEq, ↓reduceIte, bne_self_eq_false, Bool.and_false, Bool.false_and, Bool.true_or, Bool.false_or, gb]))
              | refine k_of (by assumption) ?_
              | refine tr_block ?_
              | refine tr_scope ?_
              | (refine tr_skip ?_; try simp only [ex_seq, ex_block])
              | (refine tr_label ?_; try simp only [ex_seq, ex_block])
              | (refine tr_exit ?_; try simp only [ex_seq_exit, ex_block_exit, Nat.reduceEqDiff, if_true, if_false, ex_seq, ex_block, reduceCtorEq, ↓reduceIte])
              | (refine tr_ret ?_; try simp only [ex_seq_ret, ex_block_ret]))
          refine tr_cond rfl (fun ht => ?_) (fun hf => ?_)
          · have hlt : ¬ L'.getD J 0 < L'.getD i 0 := by simpa using ht
            have hR : downF n L 0 n = (L', i) := by
              rw [← hd]
              simp only [downF, h1', if_false, hJe, hlt]
            repeat (first
                | refine tr_seq_k fun _ _ => ?_
                | (refine tr_region ?_; simp only [go_sem, List.getElem?_toArray, str_beq, reduceCtorEq, Nat.reduceEqDiff, Nat.reduceLT, Nat.reduceLeDiff, Nat.reduceAdd, Nat.reduceMul, Nat.reduceSub, Nat.reduceBEq, ↓reduceIte, bne_self_eq_false, Bool.and_false, Bool.false_and, Bool.true_or, Bool.false_or])
                | refine k_of (by assumption) ?_
                | refine tr_block ?_
                | refine tr_scope ?_
                | (refine tr_skip ?_; try simp only [ex_seq, ex_block])
                | (refine tr_label ?_; try simp only [ex_seq, ex_block])
                | (refine tr_exit ?_; try simp only [ex_seq_exit, ex_block_exit, Nat.reduceEqDiff, if_true, if_false, ex_seq, ex_block, reduceCtorEq, ↓reduceIte])
                | (refine tr_ret ?_; try simp only [ex_seq_ret, ex_block_ret]))
            refine (hQ _ _ [bA (decide (((0 : Nat) : Int) < (i : Int)))] ?_ (by rw [hR]; rfl) (by rw [hR])).2 <;> simp only [go_sem, List.getElem?_toArray, str_beq, reduceCtorEq, Nat.reduceEqDiff, Nat.reduceLT, Nat.reduceLeDiff, Nat.reduceAdd, Nat.reduceMul, Nat.reduceSub, Nat.reduceBEq, ↓reduceIte, bne_self_eq_false, Bool.and_false, Bool.false_and, Bool.true_or, Bool.false_or, Try.f37]
          · have hlt : L'.getD J 0 < L'.getD i 0 := by simpa using hf
            have hR : downF f (swapL L' i J) J n = downF n L 0 n := by
              rw [← hd]
              simp only [downF, h1', if_false, hJe, hlt, if_true]
            repeat (first
                | refine tr_seq_k fun _ _ => ?_
                | (refine tr_region ?_; simp only [go_sem, List.getElem?_toArray, str_beq, reduceCtorEq, Nat.reduceEqDiff, Nat.reduceLT, Nat.reduceLeDiff, Nat.reduceAdd, Nat.reduceMul, Nat.reduceSub, Nat.reduceBEq, ↓reduceIte, bne_self_eq_false, Bool.and_false, Bool.false_and, Bool.true_or, Bool.false_or, gb])
                | (refine call_givesW (swapS hh hlN hin (show J < N by omega)) ?_; (try dsimp only); (try simp only [go_sem, List.getElem?_toArray, str_beq, reduceCtorEq, Nat.reduceEqDiff, Nat.reduceLT, Nat.reduceLeDiff, Nat.reduceAdd, Nat.reduceMul, Nat.reduceSub, Nat.reduceBEq, ↓reduceIte, bne_self_eq_false, Bool.and_false, Bool.false_and, Bool.true_or, Bool.false_or, gb]))
                | refine k_of (by assumption) ?_
                | refine tr_block ?_
                | refine tr_scope ?_
                | (refine tr_skip ?_; try simp only [ex_seq, ex_block])
                | (refine tr_label ?_; try simp only [ex_seq, ex_block])
                | (refine tr_exit ?_; try simp only [ex_seq_exit, ex_block_exit, Nat.reduceEqDiff, if_true, if_false, ex_seq, ex_block, reduceCtorEq, ↓reduceIte])
                | (refine tr_ret ?_; try simp only [ex_seq_ret, ex_block_ret]))
            exact hK (swapL L' i J, J, f) _ _ ⟨by dsimp only; omega, by dsimp only; omega, by rw [swapL_len]; exact hl, hR⟩ ⟨⟨rfl, rfl, rfl, rfl, trivial⟩, Keep.refl _, by simp only [lowF, low, mS_len, Bool.and_true, Bool.true_and, Nat.blt_eq]; exact hbl, hW.mS _ _, by rw [mS_len, mS_len]; exact Nat.le_refl _, Nat.le_refl _⟩ (by dsimp only; omega)
        · have hJe : (if 2 * i + 1 + 1 < n ∧ L'.getD (2 * i + 1 + 1) 0 < L'.getD (2 * i + 1) 0 then 2 * i + 1 + 1 else 2 * i + 1) = 2 * i + 1 := if_neg (fun h => of_decide_eq_false hf h.2)
          obtain ⟨J, hJ0⟩ : ∃ J, J = 2 * i + 1 := ⟨_, rfl⟩
          have hJn : J < n := by omega
          have hiJ : i < J := by omega
          have hJe := hJe.trans hJ0.symm
          rw [← hJ0]
          repeat (first
              | refine tr_seq_k fun _ _ => ?_
              | (refine tr_region ?_; simp only [go_sem, List.getElem?_toArray, str_beq, reduceCtorEq, Nat.reduceEqDiff, Nat.reduceLT, Nat.reduceLeDiff, Nat.reduceAdd, Nat.reduceMul, Nat.reduceSub, Nat.reduceBEq, ↓reduceIte, bne_self_eq_false, Bool.and_false, Bool.false_and, Bool.true_or, Bool.false_or, gb])
              | (refine call_givesW (lessS hh hlN (show J < N by omega) hin) ?_; (try dsimp only); (try simp only [go_sem, List.getElem?_toArray, str_beq, reduceCtorEq, Nat.reduceEqDiff, Nat.reduceLT, Nat.reduceLeDiff, Nat.reduceAdd, Nat.reduceMul, Nat.reduceSub, Nat.reduceBEq, ↓reduceIte, bne_self_eq_false, Bool.and_false, Bool.false_and, Bool.true_or, Bool.false_or, gb]))
              | refine k_of (by assumption) ?_
              | refine tr_block ?_
              | refine tr_scope ?_
              | (refine tr_skip ?_; try simp only [ex_seq, ex_block])
              | (refine tr_label ?_; try simp only [ex_seq, ex_block])
              | (refine tr_exit ?_; try simp only [ex_seq_exit, ex_block_exit, Nat.reduceEqDiff, if_true, if_false, ex_seq, ex_block, reduceCtorEq, ↓reduceIte])
              | (refine tr_ret ?_; try simp only [ex_seq_ret, ex_block_ret]))
          refine tr_cond rfl (fun ht => ?_) (fun hf => ?_)
          · have hlt : ¬ L'.getD J 0 < L'.getD i 0 := by simpa using ht
            have hR : downF n L 0 n = (L', i) := by
              rw [← hd]
              simp only [downF, h1', if_false, hJe, hlt]
            repeat (first
                | refine tr_seq_k fun _ _ => ?_
                | (refine tr_region ?_; simp only [go_sem, List.getElem?_toArray, str_beq, reduceCtorEq, Nat.reduceEqDiff, Nat.reduceLT, Nat.reduceLeDiff, Nat.reduceAdd, Nat.reduceMul, Nat.reduceSub, Nat.reduceBEq, ↓reduceIte, bne_self_eq_false, Bool.and_false, Bool.false_and, Bool.true_or, Bool.false_or])
                | refine k_of (by assumption) ?_
                | refine tr_block ?_
                | refine tr_scope ?_
                | (refine tr_skip ?_; try simp only [ex_seq, ex_block])
                | (refine tr_label ?_; try simp only [ex_seq, ex_block])
                | (refine tr_exit ?_; try simp only [ex_seq_exit, ex_block_exit, Nat.reduceEqDiff, if_true, if_false, ex_seq, ex_block, reduceCtorEq, ↓reduceIte])
                | (refine tr_ret ?_; try simp only [ex_seq_ret, ex_block_ret]))
            refine (hQ _ _ [bA (decide (((0 : Nat) : Int) < (i : Int)))] ?_ (by rw [hR]; rfl) (by rw [hR])).2 <;> simp only [go_sem, List.getElem?_toArray, str_beq, reduceCtorEq, Nat.reduceEqDiff, Nat.reduceLT, Nat.reduceLeDiff, Nat.reduceAdd, Nat.reduceMul, Nat.reduceSub, Nat.reduceBEq, ↓reduceIte, bne_self_eq_false, Bool.and_false, Bool.false_and, Bool.true_or, Bool.false_or, Try.f37]
          · have hlt : L'.getD J 0 < L'.getD i 0 := by simpa using hf
            have hR : downF f (swapL L' i J) J n = downF n L 0 n := by
              rw [← hd]
              simp only [downF, h1', if_false, hJe, hlt, if_true]
            repeat (first
                | refine tr_seq_k fun _ _ => ?_
                | (refine tr_region ?_; simp only [go_sem, List.getElem?_toArray, str_beq, reduceCtorEq, Nat.reduceEqDiff, Nat.reduceLT, Nat.reduceLeDiff, Nat.reduceAdd, Nat.reduceMul, Nat.reduceSub, Nat.reduceBEq, ↓reduceIte, bne_self_eq_false, Bool.and_false, Bool.false_and, Bool.true_or, Bool.false_or, gb])
                | (refine call_givesW (swapS hh hlN hin (show J < N by omega)) ?_; (try dsimp only); (try simp only [go_sem, List.getElem?_toArray, str_beq, reduceCtorEq, Nat.reduceEqDiff, Nat.reduceLT, Nat.reduceLeDiff, Nat.reduceAdd, Nat.reduceMul, Nat.reduceSub, Nat.reduceBEq, ↓reduceIte, bne_self_eq_false, Bool.and_false, Bool.false_and, Bool.true_or, Bool.false_or, gb]))
                | refine k_of (by assumption) ?_
                | refine tr_block ?_
                | refine tr_scope ?_
                | (refine tr_skip ?_; try simp only [ex_seq, ex_block])
                | (refine tr_label ?_; try simp only [ex_seq, ex_block])
                | (refine tr_exit ?_; try simp only [ex_seq_exit, ex_block_exit, Nat.reduceEqDiff, if_true, if_false, ex_seq, ex_block, reduceCtorEq, ↓reduceIte])
                | (refine tr_ret ?_; try simp only [ex_seq_ret, ex_block_ret]))
            exact hK (swapL L' i J, J, f) _ _ ⟨by dsimp only; omega, by dsimp only; omega, by rw [swapL_len]; exact hl, hR⟩ ⟨⟨rfl, rfl, rfl, rfl, trivial⟩, Keep.refl _, by simp only [lowF, low, mS_len, Bool.and_true, Bool.true_and, Nat.blt_eq]; exact hbl, hW.mS _ _, by rw [mS_len, mS_len]; exact Nat.le_refl _, Nat.le_refl _⟩ (by dsimp only; omega)

theorem up_gives {m : Mm} {h b N j0 : Nat} {L : List Int} {rest : List AV} (hh : h < m.hp.length) (hb : m.hp[b]? = some ⟨false, .lsl h 0 N 1 :: rest⟩) (hbh : b ≠ h) (hN : N ≤ L.length) (hn : j0 < N) (hM : N ≤ 1000000) (hW : Wf m) :
    GivesW Try.prog 38 [.ifc 67 (.ptr b 0), iA j0] (mS m h L) (.tup []) (mS m h (upF (j0 + 1) L j0)) := by
  have hbl := (List.getElem?_eq_some_iff.1 hb).1
  refine givesW_of' Try.func38 rfl (by kernel_rfl) Try.ntmps38 rfl rfl fun Q hQ => ?_
  repeat (first
      | refine tr_seq_k fun _ _ => ?_
      | (refine tr_region ?_; simp only [go_sem, List.getElem?_toArray, str_beq, reduceCtorEq, Nat.reduceEqDiff, Nat.reduceLT, Nat.reduceLeDiff, Nat.reduceAdd, Nat.reduceMul, Nat.reduceSub, Nat.reduceBEq, ↓reduceIte, bne_self_eq_false, Bool.and_false, Bool.false_and, Bool.true_or, Bool.false_or])
      | refine k_of (by assumption) ?_
      | refine tr_block ?_
      | refine tr_scope ?_
      | (refine tr_skip ?_; try simp only [ex_seq, ex_block])
      | (refine tr_label ?_; try simp only [ex_seq, ex_block])
      | (refine tr_exit ?_; try simp only [ex_seq_exit, ex_block_exit, Nat.reduceEqDiff, if_true, if_false, ex_seq, ex_block, reduceCtorEq, ↓reduceIte])
      | (refine tr_ret ?_; try simp only [ex_seq_ret, ex_block_ret]))
  refine tr_loop_k (σ := List Int × Nat × Nat) (fun s => [(0, .ifc 67 (.ptr b 0)), (1, iA s.2.1)]) (fun s => mS m h s.1)
    (fun s => s.2.1 < s.2.2 ∧ s.2.1 < N ∧ s.1.length = L.length ∧ upF s.2.2 s.1 s.2.1 = upF (j0 + 1) L j0) (fun s => s.2.1) (L, j0, j0 + 1) ⟨by dsimp only; omega, hn, rfl, rfl⟩ ⟨rfl, rfl, trivial⟩ rfl ?_
  rintro ⟨L', j, f⟩ ⟨hf, hi, hl, hd⟩ K hK
  dsimp only at hf hi hl hd hK
  have w1 : IntKind.i64.wrap ((j : Int) - 1) = (j : Int) - 1 := wrap_in (by omega)
  have w2 : IntKind.i64.wrap (((j : Int) - 1).tdiv 2) = (((j - 1) / 2 : Nat) : Int) := by
    have e : ((j : Int) - 1).tdiv 2 = (((j - 1) / 2 : Nat) : Int) := by
      rcases Nat.eq_zero_or_pos j with h0 | h0
      · subst h0; rfl
      · rw [Int.tdiv_eq_ediv_of_nonneg (by omega)]; omega
    rw [e, wrap_in (by omega)]
  have two : ¬ (2 : Int) = 0 := by decide
  have gb : (mS m h L').hp[b]? = some ⟨false, .lsl h 0 N 1 :: rest⟩ := by rw [mS_b hbh]; exact hb
  have hlN : N ≤ L'.length := by omega
  obtain ⟨f, rfl⟩ : ∃ f', f = f' + 1 := ⟨f - 1, by omega⟩
  cases h1 : ((((j - 1) / 2 : Nat) : Int) == (j : Int)) with
  | true =>
    have h1' : (j - 1) / 2 = j := by
      have := eq_of_beq h1
      omega
    have hR : upF (j0 + 1) L j0 = L' := by
      rw [← hd]
      simp only [upF, h1', if_true]
    repeat (first
        | refine tr_seq_k fun _ _ => ?_
        | (refine tr_region ?_; simp only [go_sem, List.getElem?_toArray, str_beq, reduceCtorEq, Nat.reduceEqDiff, Nat.reduceLT, Nat.reduceLeDiff, Nat.reduceAdd, Nat.reduceMul, Nat.reduceSub, Nat.reduceBEq, ↓reduceIte, bne_self_eq_false, Bool.and_false, Bool.false_and, Bool.true_or, Bool.false_or, w1, w2, two, h1])
        | refine k_of (by assumption) ?_
        | refine tr_block ?_
        | refine tr_scope ?_
        | (refine tr_skip ?_; try simp only [ex_seq, ex_block])
        | (refine tr_label ?_; try simp only [ex_seq, ex_block])
        | (refine tr_exit ?_; try simp only [ex_seq_exit, ex_block_exit, Nat.reduceEqDiff, if_true, if_false, ex_seq, ex_block, reduceCtorEq, ↓reduceIte])
        | (refine tr_ret ?_; try simp only [ex_seq_ret, ex_block_ret]))
    refine tr_cond rfl (fun ht => ?_) (fun hf => ?_)
    · repeat (first
          | refine tr_seq_k fun _ _ => ?_
          | (refine tr_region ?_; simp only [go_sem, List.getElem?_toArray, str_beq, reduceCtorEq, Nat.reduceEqDiff, Nat.reduceLT, Nat.reduceLeDiff, Nat.reduceAdd, Nat.reduceMul, Nat.reduceSub, Nat.reduceBEq, ↓reduceIte, bne_self_eq_false, Bool.and_false, Bool.false_and, Bool.true_or, Bool.false_or])
          | refine k_of (by assumption) ?_
          | refine tr_block ?_
          | refine tr_scope ?_
          | (refine tr_skip ?_; try simp only [ex_seq, ex_block])
          | (refine tr_label ?_; try simp only [ex_seq, ex_block])
          | (refine tr_exit ?_; try simp only [ex_seq_exit, ex_block_exit, Nat.reduceEqDiff, if_true, if_false, ex_seq, ex_block, reduceCtorEq, ↓reduceIte])
          | (refine tr_ret ?_; try simp only [ex_seq_ret, ex_block_ret]))
      refine (hQ _ _ [] rfl ?_ ?_).1
      · rfl
      · rw [hR]
    · cases hf
  | false =>
    have h1' : ¬ (j - 1) / 2 = j := by
      have := ne_of_beq_false h1
      omega
    have hpN : (j - 1) / 2 < N := by omega
    repeat (first
        | refine tr_seq_k fun _ _ => ?_
        | (refine tr_region ?_; simp only [go_sem, List.getElem?_toArray, str_beq, reduceCtorEq, Nat.reduceEqDiff, Nat.reduceLT, Nat.reduceLeDiff, Nat.reduceAdd, Nat.reduceMul, Nat.reduceSub, Nat.reduceBEq, ↓reduceIte, bne_self_eq_false, Bool.and_false, Bool.false_and, Bool.true_or, Bool.false_or, w1, w2, two, h1, gb])
        | (refine call_givesW (lessS hh hlN hi hpN) ?_; (try dsimp only); (try simp only [go_sem, List.getElem?_toArray, str_beq, reduceCtorEq, Nat.reduceEqDiff, Nat.reduceLT, Nat.reduceLeDiff, Nat.reduceAdd, Nat.reduceMul, Nat.reduceSub, Nat.reduceBEq, ↓reduceIte, bne_self_eq_false, Bool.and_false, Bool.false_and, Bool.true_or, Bool.false_or, w1, w2, two, h1, gb]))
        | refine k_of (by assumption) ?_
        | refine tr_block ?_
        | refine tr_scope ?_
        | (refine tr_skip ?_; try simp only [ex_seq, ex_block])
        | (refine tr_label ?_; try simp only [ex_seq, ex_block])
        | (refine tr_exit ?_; try simp only [ex_seq_exit, ex_block_exit, Nat.reduceEqDiff, if_true, if_false, ex_seq, ex_block, reduceCtorEq, ↓reduceIte])
        | (refine tr_ret ?_; try simp only [ex_seq_ret, ex_block_ret]))
    refine tr_cond rfl (fun ht => ?_) (fun hf => ?_)
    · have hlt : ¬ L'.getD j 0 < L'.getD ((j - 1) / 2) 0 := by simpa using ht
      have hR : upF (j0 + 1) L j0 = L' := by
        rw [← hd]
        simp only [upF, h1', if_false, hlt]
      repeat (first
          | refine tr_seq_k fun _ _ => ?_
          | (refine tr_region ?_; simp only [go_sem, List.getElem?_toArray, str_beq, reduceCtorEq, Nat.reduceEqDiff, Nat.reduceLT, Nat.reduceLeDiff, Nat.reduceAdd, Nat.reduceMul, Nat.reduceSub, Nat.reduceBEq, ↓reduceIte, bne_self_eq_false, Bool.and_false, Bool.false_and, Bool.true_or, Bool.false_or])
          | refine k_of (by assumption) ?_
          | refine tr_block ?_
          | refine tr_scope ?_
          | (refine tr_skip ?_; try simp only [ex_seq, ex_block])
          | (refine tr_label ?_; try simp only [ex_seq, ex_block])
          | (refine tr_exit ?_; try simp only [ex_seq_exit, ex_block_exit, Nat.reduceEqDiff, if_true, if_false, ex_seq, ex_block, reduceCtorEq, ↓reduceIte])
          | (refine tr_ret ?_; try simp only [ex_seq_ret, ex_block_ret]))
      refine (hQ _ _ [] rfl ?_ ?_).1
      · rfl
      · rw [hR]
    · have hlt : L'.getD j 0 < L'.getD ((j - 1) / 2) 0 := by simpa using hf
      have hR : upF f (swapL L' ((j - 1) / 2) j) ((j - 1) / 2) = upF (j0 + 1) L j0 := by
        rw [← hd]
        simp only [upF, h1', if_false, hlt, if_true]
      repeat (first
          | refine tr_seq_k fun _ _ => ?_
          | (refine tr_region ?_; simp only [go_sem, List.getElem?_toArray, str_beq, reduceCtorEq, Nat.reduceEqDiff, Nat.reduceLT, Nat.reduceLeDiff, Nat.reduceAdd, Nat.reduceMul, Nat.reduceSub, Nat.reduceBEq, ↓reduceIte, bne_self_eq_false, Bool.and_false, Bool.false_and, Bool.true_or, Bool.false_or, gb])
          | (refine call_givesW (swapS hh hlN hpN hi) ?_; (try dsimp only); (try simp only [go_sem, List.getElem?_toArray, str_beq, reduceCtorEq, Nat.reduceEqDiff, Nat.reduceLT, Nat.reduceLeDiff, Nat.reduceAdd, Nat.reduceMul, Nat.reduceSub, Nat.reduceBEq, ↓reduceIte, bne_self_eq_false, Bool.and_false, Bool.false_and, Bool.true_or, Bool.false_or, gb]))
          | refine k_of (by assumption) ?_
          | refine tr_block ?_
          | refine tr_scope ?_
          | (refine tr_skip ?_; try simp only [ex_seq, ex_block])
          | (refine tr_label ?_; try simp only [ex_seq, ex_block])
          | (refine tr_exit ?_; try simp only [ex_seq_exit, ex_block_exit, Nat.reduceEqDiff, if_true, if_false, ex_seq, ex_block, reduceCtorEq, ↓reduceIte])
          | (refine tr_ret ?_; try simp only [ex_seq_ret, ex_block_ret]))
      exact hK (swapL L' ((j - 1) / 2) j, (j - 1) / 2, f) _ _ ⟨by dsimp only; omega, by dsimp only; omega, by rw [swapL_len]; exact hl, hR⟩ ⟨⟨rfl, rfl, trivial⟩, Keep.refl _, by simp only [lowF, low, mS_len, Bool.and_true, Bool.true_and, Nat.blt_eq]; exact hbl, hW.mS _ _, by rw [mS_len, mS_len]; exact Nat.le_refl _, Nat.le_refl _⟩ (by dsimp only; omega)
end Go.Proofs.Ytlhlcfijpdknfaa

/-
  Tables of texts by numbers: what layer 2 does, in plain lists. No program in sight.
-/
set_option linter.unusedSimpArgs false
set_option linter.unusedVariables false
namespace Go.Vs.Tb
open Go.Vs.Hp

/-- A text, how often it was taken. -/
abbrev Ent := ByteArray × Nat
def emp : ByteArray := ⟨#[]⟩

def findS (E : List Ent) (s : ByteArray) : Option Nat := if s = emp then none else E.findIdx? (fun e => decide (e.1 = s))
def leastF (E : List Ent) : Nat := E.findIdx (fun e => decide (e.1 = emp))
def liveB (e : Ent) : Bool := !decide (e.1 = emp)
def liveN (E : List Ent) : Nat := (E.filter liveB).length
def hasS (E : List Ent) (n : Int) : Bool := decide (0 ≤ n) && (match E[n.toNat]? with | some e => liveB e | none => false)
def takeS (E : List Ent) (s : ByteArray) : (Nat × Int) × List Ent :=
  if s.size < 1 ∨ 255 < s.size then ((0, 2), E) else
    match findS E s with
    | some n => ((n, 0), E.set n (s, (E.getD n (emp, 0)).2 + 1))
    | none => if 65536 ≤ liveN E then ((0, 16), E) else
      ((leastF E, 0), if leastF E = E.length then E ++ [(s, 1)] else E.set (leastF E) (s, 1))
def dropS (E : List Ent) (n : Int) : Int × List Ent :=
  if hasS E n then (0, if (E.getD n.toNat (emp, 0)).2 = 1 then E.set n.toNat (emp, 0) else E.set n.toNat ((E.getD n.toNat (emp, 0)).1, (E.getD n.toNat (emp, 0)).2 - 1)) else (13, E)

structure Inv (F : List Int) (E : List Ent) (N : List (ByteArray × Nat)) : Prop where
  heap : Heap F F.length
  fnd : F.Nodup
  fmem : ∀ x, x ∈ F ↔ ∃ (i : Nat) (e : Ent), x = (i : Int) ∧ E[i]? = some e ∧ e.2 = 0
  nmem : ∀ s i, (s, i) ∈ N ↔ ∃ u, E[i]? = some (s, u) ∧ 0 < u
  nnd : (N.map Prod.fst).Nodup
  zero : ∀ (i : Nat) (e : Ent), E[i]? = some e → (e.2 = 0 ↔ e.1 = emp)

theorem Inv.new : Inv [] [] [] := ⟨fun j h1 h2 => by simp at h2, by simp, fun x => by simp, fun s i => by simp, by simp, fun i e h => by simp at h⟩

section
variable {F : List Int} {E : List Ent} {N : List (ByteArray × Nat)}

theorem Inv.key (h : Inv F E N) {s : ByteArray} {i j : Nat} (h1 : (s, i) ∈ N) (h2 : (s, j) ∈ N) : i = j := by
  have hp := h.nnd
  rw [List.nodup_iff_pairwise_ne, List.pairwise_map] at hp
  obtain ⟨a, ha, ha2⟩ := List.mem_iff_getElem.1 h1
  obtain ⟨b, hb, hb2⟩ := List.mem_iff_getElem.1 h2
  rw [List.pairwise_iff_getElem] at hp
  rcases Nat.lt_trichotomy a b with hab | hab | hab
  · exact absurd (by rw [ha2, hb2]) (hp a b ha hb hab)
  · subst hab
    rw [ha2] at hb2
    injection hb2
  · exact absurd (by rw [ha2, hb2]) (hp b a hb ha hab)
theorem Inv.one (h : Inv F E N) {s : ByteArray} {i j u v : Nat} (h1 : E[i]? = some (s, u)) (h2 : E[j]? = some (s, v)) (hs : s ≠ emp) : i = j := by
  have p1 : 0 < u := Nat.pos_of_ne_zero fun e => hs ((h.zero i _ h1).1 e)
  have p2 : 0 < v := Nat.pos_of_ne_zero fun e => hs ((h.zero j _ h2).1 e)
  exact h.key ((h.nmem s i).2 ⟨u, h1, p1⟩) ((h.nmem s j).2 ⟨v, h2, p2⟩)
theorem Inv.ne (h : Inv F E N) {s : ByteArray} {i : Nat} (h1 : (s, i) ∈ N) : s ≠ emp := by
  obtain ⟨u, h2, h3⟩ := (h.nmem s i).1 h1
  intro e
  have := (h.zero i _ h2).2 e
  simp only at this
  omega

theorem findS_some {s : ByteArray} {n : Nat} (h : findS E s = some n) : s ≠ emp ∧ n < E.length ∧ ∃ u, E[n]? = some (s, u) := by
  unfold findS at h
  split at h
  · cases h
  · rename_i hs
    obtain ⟨h1, h2, h3⟩ := List.findIdx?_eq_some_iff_getElem.1 h
    refine ⟨hs, h1, E[n].2, ?_⟩
    rw [List.getElem?_eq_getElem h1]
    have : E[n].1 = s := by simpa using h2
    rw [← this]
theorem findS_none {s : ByteArray} (h : findS E s = none) (hs : s ≠ emp) : ∀ (i : Nat) (u : Nat), E[i]? ≠ some (s, u) := by
  unfold findS at h
  rw [if_neg hs] at h
  intro i u hi
  have := List.findIdx?_eq_none_iff.1 h (s, u) (List.mem_of_getElem? hi)
  simp at this
theorem findS_of {s : ByteArray} {n : Nat} (hs : s ≠ emp) (hn : n < E.length) (h : (E[n]).1 = s) (hl : ∀ j (hj : j < n), (E[j]).1 ≠ s) : findS E s = some n := by
  unfold findS
  rw [if_neg hs]
  exact List.findIdx?_eq_some_iff_getElem.2 ⟨hn, by simpa using h, fun j hj => by simpa using hl j hj⟩
theorem findS_no {s : ByteArray} (hl : ∀ j (hj : j < E.length), (E[j]).1 ≠ s) : findS E s = none := by
  unfold findS
  split
  · rfl
  · rw [List.findIdx?_eq_none_iff]
    intro e he
    obtain ⟨j, hj, rfl⟩ := List.mem_iff_getElem.1 he
    simpa using hl j hj
theorem Inv.find (h : Inv F E N) (s : ByteArray) (n : Nat) : (s, n) ∈ N ↔ findS E s = some n := by
  constructor
  · intro h1
    obtain ⟨u, h2, h3⟩ := (h.nmem s n).1 h1
    have hs := h.ne h1
    have hn := (List.getElem?_eq_some_iff.1 h2).1
    have he := (List.getElem?_eq_some_iff.1 h2).2
    refine findS_of hs hn (by rw [he]) fun j hj e => ?_
    have hj2 : E[j]? = some (s, (E[j]).2) := by
      rw [List.getElem?_eq_getElem (by omega)]
      rw [← e]
    have := h.one hj2 h2 hs
    omega
  · intro h1
    obtain ⟨hs, hn, u, h2⟩ := findS_some h1
    exact (h.nmem s n).2 ⟨u, h2, Nat.pos_of_ne_zero fun e => hs ((h.zero n _ h2).1 e)⟩
theorem Inv.find_none (h : Inv F E N) (s : ByteArray) : s ∉ N.map Prod.fst ↔ findS E s = none := by
  constructor
  · intro h1
    cases h2 : findS E s with
    | none => rfl
    | some n => exact absurd (List.mem_map.2 ⟨(s, n), (h.find s n).2 h2, rfl⟩) h1
  · intro h1 h2
    obtain ⟨⟨t, n⟩, h3, rfl⟩ := List.mem_map.1 h2
    rw [(h.find t n).1 h3] at h1
    cases h1

/-- The numbers that have a text, in order. -/
def lives (E : List Ent) : List Nat := (List.range E.length).filter fun i => liveB (E.getD i (emp, 0))
theorem mem_lives {i : Nat} : i ∈ lives E ↔ ∃ e, E[i]? = some e ∧ e.1 ≠ emp := by
  unfold lives
  rw [List.mem_filter, List.mem_range]
  constructor
  · rintro ⟨h1, h2⟩
    refine ⟨E[i], List.getElem?_eq_getElem h1, ?_⟩
    rw [List.getD_eq_getElem?_getD, List.getElem?_eq_getElem h1] at h2
    simpa [liveB] using h2
  · rintro ⟨e, h1, h2⟩
    obtain ⟨h3, h4⟩ := List.getElem?_eq_some_iff.1 h1
    refine ⟨h3, ?_⟩
    rw [List.getD_eq_getElem?_getD, h1]
    simpa [liveB] using h2
theorem lives_append (E : List Ent) (e : Ent) : lives (E ++ [e]) = lives E ++ if liveB e then [E.length] else [] := by
  unfold lives
  rw [List.length_append, List.length_cons, List.length_nil, List.range_succ, List.filter_append]
  congr 1
  · apply List.filter_congr
    intro i hi
    have hi := List.mem_range.1 hi
    rw [List.getD_eq_getElem?_getD, List.getElem?_append_left hi, ← List.getD_eq_getElem?_getD]
  · simp [List.getD_eq_getElem?_getD, List.filter_cons]
theorem lives_take (E : List Ent) (k : Nat) (hk : k < E.length) : lives (E.take (k + 1)) = lives (E.take k) ++ if liveB E[k] then [k] else [] := by
  have : E.take (k + 1) = E.take k ++ [E[k]] := (List.take_append_getElem hk).symm
  rw [this, lives_append, List.length_take, Nat.min_eq_left (by omega)]
theorem filter_len {A : Type} (p : A → Bool) (d : A) : ∀ l : List A, ((List.range l.length).filter fun i => p (l.getD i d)).length = (l.filter p).length := by
  intro l
  induction l with
  | nil => rfl
  | cons x l ih =>
    have e : ((fun i => p ((x :: l).getD i d)) ∘ Nat.succ) = fun i => p (l.getD i d) := rfl
    have e0 : (x :: l).getD 0 d = x := rfl
    rw [List.length_cons, List.range_succ_eq_map, List.filter_cons, List.filter_cons, List.filter_map, e, e0]
    cases p x
    · simpa using ih
    · simpa using ih
theorem liveN_eq (E : List Ent) : liveN E = (lives E).length := (filter_len liveB (emp, 0) E).symm
theorem lives_nodup (E : List Ent) : (lives E).Nodup := List.nodup_range.filter _
theorem lives_sorted (E : List Ent) : (lives E).Pairwise (· < ·) := List.pairwise_lt_range.filter _
theorem Inv.perm (h : Inv F E N) : (N.map Prod.snd).Perm (lives E) := by
  have hnd : (N.map Prod.snd).Nodup := by
    have hp := h.nnd
    rw [List.nodup_iff_pairwise_ne, List.pairwise_map] at hp ⊢
    rw [List.pairwise_iff_getElem] at hp ⊢
    intro i j hi hj hij e
    have m1 : N[i] ∈ N := List.getElem_mem hi
    have m2 : N[j] ∈ N := List.getElem_mem hj
    obtain ⟨u, h1, _⟩ := (h.nmem N[i].1 N[i].2).1 m1
    obtain ⟨v, h2, _⟩ := (h.nmem N[j].1 N[j].2).1 m2
    rw [e] at h1
    rw [h1] at h2
    injection h2 with h2
    injection h2 with h2
    exact hp i j hi hj hij h2
  rw [List.perm_ext_iff_of_nodup hnd (lives_nodup E)]
  intro i
  rw [mem_lives]
  constructor
  · intro h1
    obtain ⟨⟨s, n⟩, h2, rfl⟩ := List.mem_map.1 h1
    obtain ⟨u, h3, h4⟩ := (h.nmem s n).1 h2
    exact ⟨_, h3, h.ne h2⟩
  · rintro ⟨⟨s, u⟩, h1, h2⟩
    exact List.mem_map.2 ⟨(s, i), (h.nmem s i).2 ⟨u, h1, Nat.pos_of_ne_zero fun e => h2 ((h.zero i _ h1).1 e)⟩, rfl⟩
theorem Inv.len (h : Inv F E N) : N.length = liveN E := by
  rw [liveN_eq, ← h.perm.length_eq, List.length_map]

theorem leastF_le (E : List Ent) : leastF E ≤ E.length := List.findIdx_le_length
theorem leastF_lt {n : Nat} (h : leastF E = n) (hn : n < E.length) : (E[n]).1 = emp ∧ ∀ j (hj : j < n), (E[j]).1 ≠ emp := by
  subst h
  refine ⟨?_, fun j hj => ?_⟩
  · have := List.findIdx_getElem (xs := E) (p := fun e => decide (e.1 = emp)) (w := by exact hn)
    exact of_decide_eq_true this
  · have := List.not_of_lt_findIdx (xs := E) (p := fun e => decide (e.1 = emp)) hj
    simpa using this
theorem leastF_all (h : leastF E = E.length) : ∀ j (hj : j < E.length), (E[j]).1 ≠ emp := fun j hj => by
  have := List.not_of_lt_findIdx (xs := E) (p := fun e => decide (e.1 = emp)) (i := j) (by show j < leastF E; omega)
  simpa using this
theorem leastF_of {n : Nat} (hn : n ≤ E.length) (h : ∀ (hn : n < E.length), (E[n]).1 = emp) (hl : ∀ j (hj : j < n), (E[j]).1 ≠ emp) : leastF E = n := by
  have h1 : ¬ leastF E < n := fun hlt => by
    have := (leastF_lt (E := E) rfl (by omega)).1
    exact hl _ hlt this
  have h2 : ¬ n < leastF E := fun hlt => by
    have hn' : n < E.length := Nat.lt_of_lt_of_le hlt (leastF_le E)
    have := List.not_of_lt_findIdx (xs := E) (p := fun e => decide (e.1 = emp)) (i := n) (by exact hlt)
    simp at this
    exact this (h hn')
  omega

theorem set_get {E : List Ent} {n : Nat} (hn : n < E.length) (x : Ent) (i : Nat) (e : Ent) : (E.set n x)[i]? = some e ↔ (i = n ∧ e = x) ∨ (i ≠ n ∧ E[i]? = some e) := by
  rw [List.getElem?_set]
  by_cases h : n = i
  · subst h
    rw [if_pos rfl, if_pos hn]
    constructor
    · intro h; injection h with h; exact Or.inl ⟨rfl, h.symm⟩
    · rintro (⟨_, rfl⟩ | ⟨h, _⟩)
      · rfl
      · exact absurd rfl h
  · rw [if_neg h]
    constructor
    · intro h2; exact Or.inr ⟨Ne.symm h, h2⟩
    · rintro (⟨h2, _⟩ | ⟨_, h2⟩)
      · exact absurd h2.symm h
      · exact h2

/-- Taken again, or dropped and still there. -/
theorem Inv.again (h : Inv F E N) {s : ByteArray} {n u v : Nat} (h1 : E[n]? = some (s, u)) (hs : s ≠ emp) (hv : 0 < v) : Inv F (E.set n (s, v)) N := by
  have hn := (List.getElem?_eq_some_iff.1 h1).1
  have hu : 0 < u := Nat.pos_of_ne_zero fun e => hs ((h.zero n _ h1).1 e)
  refine ⟨h.heap, h.fnd, fun x => ?_, fun t i => ?_, h.nnd, fun i e h2 => ?_⟩
  · rw [h.fmem]
    constructor
    · rintro ⟨i, e, rfl, h2, h3⟩
      refine ⟨i, e, rfl, (set_get hn _ _ _).2 (Or.inr ⟨fun hi => ?_, h2⟩), h3⟩
      subst hi
      rw [h1] at h2
      injection h2 with h2
      subst h2
      simp only at h3
      omega
    · rintro ⟨i, e, rfl, h2, h3⟩
      rcases (set_get hn _ _ _).1 h2 with ⟨_, rfl⟩ | ⟨_, h4⟩
      · simp only at h3; omega
      · exact ⟨i, e, rfl, h4, h3⟩
  · rw [h.nmem]
    constructor
    · rintro ⟨w, h2, h3⟩
      by_cases hi : i = n
      · subst hi
        rw [h1] at h2
        injection h2 with h2
        injection h2 with h2 h4
        subst h2
        exact ⟨v, (set_get hn _ _ _).2 (Or.inl ⟨rfl, rfl⟩), hv⟩
      · exact ⟨w, (set_get hn _ _ _).2 (Or.inr ⟨hi, h2⟩), h3⟩
    · rintro ⟨w, h2, h3⟩
      rcases (set_get hn _ _ _).1 h2 with ⟨rfl, h4⟩ | ⟨_, h4⟩
      · injection h4 with h4 h5
        subst h4
        exact ⟨u, h1, hu⟩
      · exact ⟨w, h4, h3⟩
  · rcases (set_get hn _ _ _).1 h2 with ⟨_, rfl⟩ | ⟨_, h4⟩
    · constructor
      · intro e; simp only at e; omega
      · intro e; exact absurd e hs
    · exact h.zero i e h4

theorem Inv.least (h : Inv F E N) (h0 : 0 < F.length) : F.getD 0 0 = (leastF E : Nat) ∧ leastF E < E.length := by
  have hm : F.getD 0 0 ∈ F := by
    rw [List.getD_eq_getElem?_getD, List.getElem?_eq_getElem h0]
    exact List.getElem_mem h0
  obtain ⟨i, e, h1, h2, h3⟩ := (h.fmem _).1 hm
  have hi := (List.getElem?_eq_some_iff.1 h2).1
  have he := (List.getElem?_eq_some_iff.1 h2).2
  have : leastF E = i := by
    refine leastF_of (Nat.le_of_lt hi) (fun _ => ?_) fun j hj hz => ?_
    · rw [he]; exact (h.zero i e h2).1 h3
    · have hjl : j < E.length := by omega
      have hj2 : E[j]? = some E[j] := List.getElem?_eq_getElem hjl
      have : ((j : Nat) : Int) ∈ F := (h.fmem _).2 ⟨j, E[j], rfl, hj2, (h.zero j _ hj2).2 hz⟩
      obtain ⟨k, hk, hk2⟩ := List.mem_iff_getElem.1 this
      have := h.heap.least k hk
      rw [List.getD_eq_getElem?_getD (i := k), List.getElem?_eq_getElem hk] at this
      simp only [Option.getD_some] at this
      omega
  rw [this]
  exact ⟨h1, hi⟩
theorem Inv.least0 (h : Inv F E N) (h0 : F = []) : leastF E = E.length := by
  refine leastF_of (Nat.le_refl _) (fun h => absurd h (Nat.lt_irrefl _)) fun j hj hz => ?_
  have hj2 : E[j]? = some E[j] := List.getElem?_eq_getElem hj
  have : ((j : Nat) : Int) ∈ F := (h.fmem _).2 ⟨j, E[j], rfl, hj2, (h.zero j _ hj2).2 hz⟩
  rw [h0] at this
  cases this

/-- A number that was free. -/
theorem Inv.fill (h : Inv F E N) {F' : List Int} {s : ByteArray} {n : Nat} (hp : F.Perm ((n : Int) :: F')) (hh : Heap F' F'.length) (hs : s ≠ emp) (hf : findS E s = none) : Inv F' (E.set n (s, 1)) (N ++ [(s, n)]) := by
  have hnd : ((n : Int) :: F').Nodup := hp.nodup_iff.1 h.fnd
  rw [List.nodup_cons] at hnd
  have hmem : ∀ x, x ∈ F ↔ x = (n : Int) ∨ x ∈ F' := fun x => by rw [hp.mem_iff, List.mem_cons]
  obtain ⟨k, e0, hk, h1, h2⟩ := (h.fmem _).1 ((hmem (n : Int)).2 (Or.inl rfl))
  have hk : n = k := by omega
  subst hk
  have hn := (List.getElem?_eq_some_iff.1 h1).1
  refine ⟨hh, hnd.2, fun x => ?_, fun t i => ?_, ?_, fun i e h2 => ?_⟩
  · constructor
    · intro hx
      obtain ⟨i, e, rfl, h3, h4⟩ := (h.fmem x).1 ((hmem x).2 (Or.inr hx))
      refine ⟨i, e, rfl, (set_get hn _ _ _).2 (Or.inr ⟨fun hi => ?_, h3⟩), h4⟩
      subst hi
      exact hnd.1 hx
    · rintro ⟨i, e, rfl, h3, h4⟩
      rcases (set_get hn _ _ _).1 h3 with ⟨_, rfl⟩ | ⟨h5, h6⟩
      · cases h4
      · rcases (hmem _).1 ((h.fmem _).2 ⟨i, e, rfl, h6, h4⟩) with h7 | h7
        · exact absurd (by omega) h5
        · exact h7
  · rw [List.mem_append, List.mem_singleton, h.nmem]
    constructor
    · rintro (⟨u, h3, h4⟩ | h3)
      · refine ⟨u, (set_get hn _ _ _).2 (Or.inr ⟨fun hi => ?_, h3⟩), h4⟩
        subst hi
        rw [h1] at h3
        injection h3 with h3
        subst h3
        simp only at h2
        omega
      · injection h3 with h3 h4
        subst h3 h4
        exact ⟨1, (set_get hn _ _ _).2 (Or.inl ⟨rfl, rfl⟩), Nat.one_pos⟩
    · rintro ⟨u, h3, h4⟩
      rcases (set_get hn _ _ _).1 h3 with ⟨rfl, h5⟩ | ⟨_, h5⟩
      · injection h5 with h5 h6
        subst h5
        exact Or.inr rfl
      · exact Or.inl ⟨u, h5, h4⟩
  · rw [List.map_append, List.nodup_append]
    refine ⟨h.nnd, by simp, fun a ha b hb => ?_⟩
    simp only [List.map_cons, List.map_nil, List.mem_singleton] at hb
    subst hb
    rintro rfl
    exact (h.find_none _).2 hf ha
  · rcases (set_get hn _ _ _).1 h2 with ⟨_, rfl⟩ | ⟨_, h4⟩
    · constructor
      · intro e; cases e
      · intro e; exact absurd e hs
    · exact h.zero i e h4

/-- A number that is new. -/
theorem Inv.push (h : Inv F E N) {s : ByteArray} (h0 : F = []) (hs : s ≠ emp) (hf : findS E s = none) : Inv [] (E ++ [(s, 1)]) (N ++ [(s, E.length)]) := by
  have hg : ∀ (i : Nat) (e : Ent), (E ++ [(s, 1)])[i]? = some e ↔ E[i]? = some e ∨ (i = E.length ∧ e = (s, 1)) := fun i e => by
    rw [List.getElem?_append]
    split
    · rename_i hi
      constructor
      · exact Or.inl
      · rintro (h | ⟨h, _⟩)
        · exact h
        · omega
    · rename_i hi
      rw [List.getElem?_eq_none (l := E) (by omega)]
      constructor
      · intro h2
        right
        have := (List.getElem?_eq_some_iff.1 h2)
        obtain ⟨h3, h4⟩ := this
        simp only [List.length_singleton] at h3
        have : i = E.length := by omega
        subst this
        refine ⟨rfl, ?_⟩
        simp at h4
        exact h4.symm
      · rintro (h | ⟨rfl, rfl⟩)
        · cases h
        · simp
  refine ⟨fun j h1 h2 => by simp at h2, by simp, fun x => ?_, fun t i => ?_, ?_, fun i e h2 => ?_⟩
  · constructor
    · intro hx; cases hx
    · rintro ⟨i, e, rfl, h1, h2⟩
      rcases (hg i e).1 h1 with h3 | ⟨_, rfl⟩
      · have : ((i : Nat) : Int) ∈ F := (h.fmem _).2 ⟨i, e, rfl, h3, h2⟩
        rw [h0] at this
        exact this
      · cases h2
  · rw [List.mem_append, List.mem_singleton, h.nmem]
    constructor
    · rintro (⟨u, h1, h2⟩ | h1)
      · exact ⟨u, (hg _ _).2 (Or.inl h1), h2⟩
      · injection h1 with h1 h2
        subst h1 h2
        exact ⟨1, (hg _ _).2 (Or.inr ⟨rfl, rfl⟩), Nat.one_pos⟩
    · rintro ⟨u, h1, h2⟩
      rcases (hg _ _).1 h1 with h3 | ⟨rfl, h3⟩
      · exact Or.inl ⟨u, h3, h2⟩
      · injection h3 with h3 h4
        subst h3
        exact Or.inr rfl
  · rw [List.map_append, List.nodup_append]
    refine ⟨h.nnd, by simp, fun a ha b hb => ?_⟩
    simp only [List.map_cons, List.map_nil, List.mem_singleton] at hb
    subst hb
    rintro rfl
    exact (h.find_none _).2 hf ha
  · rcases (hg _ _).1 h2 with h3 | ⟨_, rfl⟩
    · exact h.zero i e h3
    · constructor
      · intro e; cases e
      · intro e; exact absurd e hs

/-- Dropped for the last time. -/
theorem Inv.gone (h : Inv F E N) {F' : List Int} {s : ByteArray} {n u k : Nat} (h1 : E[n]? = some (s, u)) (hs : s ≠ emp) (hp : F'.Perm (F ++ [(n : Int)])) (hh : Heap F' F'.length) (hk : N[k]? = some (s, n)) : Inv F' (E.set n (emp, 0)) (N.eraseIdx k) := by
  have hn := (List.getElem?_eq_some_iff.1 h1).1
  have hu : 0 < u := Nat.pos_of_ne_zero fun e => hs ((h.zero n _ h1).1 e)
  have hmem : ∀ x, x ∈ F' ↔ x ∈ F ∨ x = (n : Int) := fun x => by rw [hp.mem_iff]; simp
  have hnF : ((n : Nat) : Int) ∉ F := fun hx => by
    obtain ⟨i, e, h2, h3, h4⟩ := (h.fmem _).1 hx
    have : n = i := by omega
    subst this
    rw [h1] at h3
    injection h3 with h3
    subst h3
    simp only at h4
    omega
  have hN : ∀ p, p ∈ N.eraseIdx k ↔ p ∈ N ∧ p ≠ (s, n) := fun p => by
    have hkl := (List.getElem?_eq_some_iff.1 hk).1
    have hke := (List.getElem?_eq_some_iff.1 hk).2
    rw [List.mem_eraseIdx_iff_getElem]
    have hpw := h.nnd
    rw [List.nodup_iff_pairwise_ne, List.pairwise_map, List.pairwise_iff_getElem] at hpw
    constructor
    · rintro ⟨i, hi, hne, rfl⟩
      refine ⟨List.getElem_mem hi, fun e => ?_⟩
      rcases Nat.lt_trichotomy i k with hik | hik | hik
      · exact hpw i k hi hkl hik (by rw [e, hke])
      · exact hne hik
      · exact hpw k i hkl hi hik (by rw [e, hke])
    · rintro ⟨h2, h3⟩
      obtain ⟨i, hi, rfl⟩ := List.mem_iff_getElem.1 h2
      exact ⟨i, hi, fun e => h3 (by subst e; exact hke), rfl⟩
  refine ⟨hh, ?_, fun x => ?_, fun t i => ?_, ?_, fun i e h2 => ?_⟩
  · rw [hp.nodup_iff, List.nodup_append]
    refine ⟨h.fnd, by simp, fun a ha b hb => ?_⟩
    rw [List.mem_singleton] at hb
    subst hb
    rintro rfl
    exact hnF ha
  · rw [hmem]
    constructor
    · rintro (hx | rfl)
      · obtain ⟨i, e, rfl, h3, h4⟩ := (h.fmem _).1 hx
        refine ⟨i, e, rfl, (set_get hn _ _ _).2 (Or.inr ⟨fun hi => ?_, h3⟩), h4⟩
        subst hi
        exact hnF hx
      · exact ⟨n, _, rfl, (set_get hn _ _ _).2 (Or.inl ⟨rfl, rfl⟩), rfl⟩
    · rintro ⟨i, e, rfl, h3, h4⟩
      rcases (set_get hn _ _ _).1 h3 with ⟨rfl, _⟩ | ⟨_, h5⟩
      · exact Or.inr rfl
      · exact Or.inl ((h.fmem _).2 ⟨i, e, rfl, h5, h4⟩)
  · rw [hN, h.nmem]
    constructor
    · rintro ⟨⟨v, h2, h3⟩, h4⟩
      refine ⟨v, (set_get hn _ _ _).2 (Or.inr ⟨fun hi => ?_, h2⟩), h3⟩
      subst hi
      rw [h1] at h2
      injection h2 with h2
      injection h2 with h2
      exact h4 (by rw [h2])
    · rintro ⟨v, h2, h3⟩
      rcases (set_get hn _ _ _).1 h2 with ⟨_, h4⟩ | ⟨h4, h5⟩
      · injection h4 with h4 h5
        omega
      · refine ⟨⟨v, h5, h3⟩, fun e => ?_⟩
        injection e with _ e
        exact h4 e
  · have := h.nnd
    rw [List.nodup_iff_pairwise_ne, List.pairwise_map] at this ⊢
    exact this.sublist (List.eraseIdx_sublist ..)
  · rcases (set_get hn _ _ _).1 h2 with ⟨_, rfl⟩ | ⟨_, h4⟩
    · exact ⟨fun _ => rfl, fun _ => rfl⟩
    · exact h.zero i e h4
end
end Go.Vs.Tb
namespace Go.Vs.Tb
open Go.Vs.Hp
/-- Numbers that are free are fewer than numbers. -/
theorem Inv.free_le {F : List Int} {E : List Ent} {N : List (ByteArray × Nat)} (h : Inv F E N) : F.length ≤ E.length := by
  have h1 : ∀ x ∈ F, x ∈ (List.range E.length).map (fun i : Nat => (i : Int)) := fun x hx => by
    obtain ⟨i, e, rfl, h2, _⟩ := (h.fmem x).1 hx
    exact List.mem_map.2 ⟨i, List.mem_range.2 (List.getElem?_eq_some_iff.1 h2).1, rfl⟩
  have h2 := h.fnd.length_le_of_subset h1
  simpa using h2
end Go.Vs.Tb

/-
  Chapter 2: slices over local blocks as rows; what is kept in memory; container/heap's Push and Pop on a table's free numbers.
-/
set_option linter.unusedSimpArgs false
set_option linter.unusedVariables false
namespace Go.Proofs.Ytlhlcfijpdknfaa
open Go.Vs Go.Vs.Ab Go.Vs.Hp Go.Vs.Tb
set_option maxRecDepth 100000
set_option maxHeartbeats 4000000

/-- A slice over a local block (or nil), what it holds, the block. -/
def RowAt (m : Mm) {T : Type} (enc : T → List CV) (size : Nat) (c : AV) (l : List T) (s : List Nat) : Prop :=
  (l = [] ∧ c = .c (.sl true 0 []) ∧ s = []) ∨ ∃ h L, c = .lsl h 0 l.length size ∧ s = [h] ∧ m.hp[h]? = some ⟨false, blC enc L⟩ ∧ l = L.take l.length
/-- What a call leaves as it is: all blocks but those of S, which turn into those of S'. -/
structure Kp (m m' : Mm) (S S' : List Nat) : Prop where
  hw : m'.hw = m.hw
  len : m.hp.length ≤ m'.hp.length
  old : ∀ i blk, i ∉ S → m.hp[i]? = some blk → m'.hp[i]? = some blk
  new : ∀ i ∈ S', i ∈ S ∨ m.hp.length ≤ i
  wf : Wf m'
theorem Kp.refl {m : Mm} (hW : Wf m) (S : List Nat) : Kp m m S S := ⟨rfl, Nat.le_refl _, fun _ _ _ h => h, fun i h => Or.inl h, hW⟩
theorem Kp.trans {m1 m2 m3 : Mm} {S1 S2 S3 : List Nat} (h : Kp m1 m2 S1 S2) (k : Kp m2 m3 S2 S3) : Kp m1 m3 S1 S3 :=
  ⟨k.hw.trans h.hw, Nat.le_trans h.len k.len, fun i blk hi hb => by
    refine k.old i blk (fun h2 => ?_) (h.old i blk hi hb)
    rcases h.new i h2 with h3 | h3
    · exact hi h3
    · have := (List.getElem?_eq_some_iff.1 hb).1; omega, fun i hi => by
    rcases k.new i hi with h2 | h2
    · exact h.new i h2
    · exact Or.inr (Nat.le_trans h.len h2), k.wf⟩
/-- Fewer blocks changed, more claimed. -/
theorem Kp.mono {m m' : Mm} {S S' S2 S2' : List Nat} (h : Kp m m' S S') (h1 : ∀ i ∈ S, i ∈ S2) (h2 : ∀ i ∈ S2', i ∈ S' ∨ i ∈ S2) : Kp m m' S2 S2' :=
  ⟨h.hw, h.len, fun i blk hi hb => h.old i blk (fun hs => hi (h1 i hs)) hb, fun i hi => by
    rcases h2 i hi with h3 | h3
    · rcases h.new i h3 with h4 | h4
      · exact Or.inl (h1 i h4)
      · exact Or.inr h4
    · exact Or.inl h3, h.wf⟩
theorem RowAt.keep {m m' : Mm} {S S' : List Nat} (k : Kp m m' S S') {T : Type} {enc : T → List CV} {size : Nat} {c : AV} {l : List T} {s : List Nat} (h : RowAt m enc size c l s) (hs : ∀ i ∈ s, i ∉ S) : RowAt m' enc size c l s := by
  rcases h with h | ⟨b, L, h1, h2, h3, h4⟩
  · exact Or.inl h
  · exact Or.inr ⟨b, L, h1, h2, k.old b _ (hs b (by rw [h2]; simp)) h3, h4⟩
theorem RowAt.low {m : Mm} {T : Type} {enc : T → List CV} {size : Nat} {c : AV} {l : List T} {s : List Nat} (h : RowAt m enc size c l s) (j : Nat) : low m.hp.length j c = true := by
  rcases h with ⟨_, rfl, _⟩ | ⟨b, L, rfl, h2, h3, h4⟩
  · rfl
  · have := (List.getElem?_eq_some_iff.1 h3).1
    simp only [Go.Vs.Ab.low, Nat.blt_eq]
    exact this
theorem RowAt.plain1 {m : Mm} {T : Type} {enc : T → List CV} {size : Nat} {c : AV} {l : List T} {s : List Nat} (h : RowAt m enc size c l s) : plain1 c = true := by
  rcases h with ⟨_, rfl, _⟩ | ⟨b, L, rfl, h2, h3, h4⟩ <;> rfl

theorem lowB_append {i j : Nat} : ∀ {a b : List Blk}, lowB i j (a ++ b) = (lowB i j a && lowB i j b)
  | [], b => by simp [lowB]
  | x :: a, b => by simp only [List.cons_append, lowB, lowB_append (a := a), Bool.and_assoc]
mutual
theorem low_mono {i j i' j' : Nat} (hi : i ≤ i') (hj : j ≤ j') : ∀ {c : AV}, low i j c = true → low i' j' c = true
  | .own k _ _, h => by simp only [low, Nat.blt_eq] at *; omega
  | .ptr b _, h => by simp only [low, Nat.blt_eq] at *; omega
  | .tup vs, h => by simp only [low] at *; exact lows_mono hi hj h
  | .fn _ a b, h => by simp only [low, Bool.and_eq_true] at *; exact ⟨lows_mono hi hj h.1, lows_mono hi hj h.2⟩
  | .c _, h => rfl
  | .agg _, h => rfl
  | .cptr _, h => rfl
  | .lsl b _ _ _, h => by simp only [low, Nat.blt_eq] at *; omega
  | .mapp b, h => by simp only [low, Nat.blt_eq] at *; omega
  | .ifc _ v, h => by simp only [low] at *; exact low_mono hi hj h
  | .strc vs, h => by simp only [low] at *; exact lows_mono hi hj h
  | .ent _, h => rfl
  | .dead, h => rfl
theorem lows_mono {i j i' j' : Nat} (hi : i ≤ i') (hj : j ≤ j') : ∀ {cs : List AV}, lows i j cs = true → lows i' j' cs = true
  | [], h => rfl
  | c :: r, h => by simp only [lows, Bool.and_eq_true] at *; exact ⟨low_mono hi hj h.1, lows_mono hi hj h.2⟩
end
theorem lowB_mono {i j i' j' : Nat} (hi : i ≤ i') (hj : j ≤ j') : ∀ {bs : List Blk}, lowB i j bs = true → lowB i' j' bs = true
  | [], h => rfl
  | c :: r, h => by simp only [lowB, Bool.and_eq_true] at *; exact ⟨lows_mono hi hj h.1, lowB_mono hi hj h.2⟩
/-- Blocks set, blocks added. -/
theorem Wf.set {m : Mm} (h : Wf m) {k : Nat} {nb : Blk} (hn : lows m.hp.length m.hw.length nb.cs = true) : Wf ⟨m.hp.set k nb, m.hw⟩ := by
  unfold Wf
  rw [List.length_set]
  exact lowB_set hn k h
theorem Wf.add {m : Mm} (h : Wf m) {nb : Blk} (hn : lows (m.hp.length + 1) m.hw.length nb.cs = true) : Wf ⟨m.hp ++ [nb], m.hw⟩ := by
  unfold Wf
  rw [lowB_append, List.length_append, Bool.and_eq_true]
  refine ⟨lowB_mono (Nat.le_add_right _ _) (Nat.le_refl _) h, ?_⟩
  simp only [lowB, Bool.and_true]
  exact hn
theorem Wf.low {m : Mm} (h : Wf m) {b : Nat} {blk : Blk} (hb : m.hp[b]? = some blk) : lows m.hp.length m.hw.length blk.cs = true := lowB_get h b blk hb
theorem blC_take {T : Type} {enc : T → List CV} {size : Nat} (hk : ∀ x, (enc x).length = size) (L : List T) (n : Nat) : List.take (n * size) (blC enc L) = blC enc (L.take n) := by
  unfold blC
  rw [← List.map_take, take_flat hk]
theorem blC_app {T : Type} (enc : T → List CV) (L : List T) (x : T) : blC enc L ++ (enc x).map AV.c = blC enc (L ++ [x]) := by
  unfold blC
  rw [List.flatMap_append, List.map_append]
  simp

/-- An append to a row. -/
theorem row_app {T : Type} {enc : T → List CV} {size bytes : Nat} (hk : ∀ x, (enc x).length = size) (h0 : 0 < size) {t e : TypeId} (ht : Try.prog.underlying t = some (.slice e)) (hi : info3 Try.prog e = some (size, bytes)) {m : Mm} {c : AV} {l : List T} {s : List Nat}
    (hr : RowAt m enc size c l s) (hW : Wf m) (x : T) {ex : Bool} (hb : (l.length + 1) * bytes ≤ 140737488355328) (hl : l.length + 1 ≤ maxLen) :
    ∃ m', aAppendL Try.prog m t c (.c (.sl ex 1 (enc x))) = some (.lsl m.hp.length 0 (l.length + 1) size, m') ∧ m'.hp[m.hp.length]? = some ⟨false, blC enc (l ++ [x])⟩ ∧ m'.hp.length = m.hp.length + 1 ∧ Kp m m' s [m.hp.length] := by
  have h1 : Nat.ble (l.length + 1) maxLen = true := by simpa using hl
  have h2 : Nat.ble ((l.length + 1) * bytes) 140737488355328 = true := by simpa using hb
  have hxs : slV (AV.c (.sl ex 1 (enc x))) = some (1, enc x) := rfl
  have h10 : Nat.beq 1 0 = false := rfl
  rcases hr with ⟨rfl, rfl, rfl⟩ | ⟨b, L, rfl, rfl, h3, h4⟩
  · have hf : fits 0 1 size bytes 0 (enc x).length = true := by
      simp only [List.length_nil, Nat.zero_add, Nat.one_mul] at h1 h2
      simp only [fits, hk, Nat.zero_add, Nat.one_mul, Nat.zero_mul, h1, h2, Nat.beq_refl, Bool.and_self]
    refine ⟨⟨m.hp ++ [⟨false, (enc x).map .c⟩], m.hw⟩, ?_, ?_, ?_, ?_⟩
    · simp only [aAppendL, ht, hi, hxs, h10, hf, if_true, List.length_nil, Bool.false_eq_true, if_false]
    · simp [blC]
    · simp
    · refine ⟨rfl, by simp, fun i blk _ h => ?_, fun i h => Or.inr (by simp at h; omega), hW.add (lows_c _ _ _)⟩
      rw [List.getElem?_append_left (List.getElem?_eq_some_iff.1 h).1]
      exact h
  · have hbl := (List.getElem?_eq_some_iff.1 h3).1
    have hle : l.length ≤ L.length := by
      have := congrArg List.length h4
      rw [List.length_take] at this
      omega
    have hf : fits l.length 1 size bytes (l.length * size) (enc x).length = true := by
      simp only [fits, hk, Nat.one_mul, h1, h2, Nat.beq_refl, Bool.and_self]
    have hp : plainB (blC enc L) = true := plainB_blC
    have hln : Nat.ble (l.length * size) (blC enc L).length = true := by
      rw [len_blC hk, Nat.ble_eq]
      exact Nat.mul_le_mul_right _ hle
    have hlen : (m.hp.set b (⟨false, [.dead]⟩ : Blk)).length = m.hp.length := List.length_set
    refine ⟨⟨m.hp.set b ⟨false, [.dead]⟩ ++ [⟨false, blC enc (l ++ [x])⟩], m.hw⟩, ?_, ?_, ?_, ?_⟩
    · simp only [aAppendL, ht, hi, hxs, h10, h3, hp, hln, hf, Nat.beq_refl, Bool.not_false, Bool.and_self, if_true, Bool.false_eq_true, if_false, blC_take hk, blC_app, ← h4]
    · show (m.hp.set b (⟨false, [.dead]⟩ : Blk) ++ [(⟨false, blC enc (l ++ [x])⟩ : Blk)])[m.hp.length]? = _
      rw [List.getElem?_append_right (by rw [hlen]; exact Nat.le_refl _), hlen, Nat.sub_self]
      rfl
    · show (m.hp.set b (⟨false, [.dead]⟩ : Blk) ++ [(⟨false, blC enc (l ++ [x])⟩ : Blk)]).length = _
      rw [List.length_append, hlen]
      rfl
    · refine ⟨rfl, ?_, fun i blk hi h => ?_, fun i h => Or.inr (by simp at h; omega), ?_⟩
      · show m.hp.length ≤ (m.hp.set b (⟨false, [.dead]⟩ : Blk) ++ [(⟨false, blC enc (l ++ [x])⟩ : Blk)]).length
        rw [List.length_append, hlen]
        exact Nat.le_add_right _ _
      · show (m.hp.set b (⟨false, [.dead]⟩ : Blk) ++ [(⟨false, blC enc (l ++ [x])⟩ : Blk)])[i]? = _
        rw [List.getElem?_append_left (by rw [hlen]; exact (List.getElem?_eq_some_iff.1 h).1), List.getElem?_set_ne (fun e => hi (by simp [e]))]
        exact h
      · have w1 : Wf ⟨m.hp.set b ⟨false, [.dead]⟩, m.hw⟩ := hW.set rfl
        have := w1.add (nb := ⟨false, blC enc (l ++ [x])⟩) (by simp only; exact lows_blC)
        exact this

theorem avOf_nilIface : avOf .nilIface = some (.c (.v .nilIface)) := rfl
theorem one_max : (1 ≤ maxLen) = True := eq_true (by decide)
theorem build1I (x : Int) : aBuildSlice Try.prog 58 1 [(0, iA x)] = some [.v (.int .i64 x)] := build1 Try.underlying58 sz3 ze3 (by decide) (by decide) (by decide) rfl rfl
attribute [go_sem] avOf_nilIface one_max build1I
theorem in_hk (x : Int) : (inC x).length = 1 := rfl
theorem info_int : info3 Try.prog 3 = some (1, 8) := by kernel_rfl

/-! ### the table's free numbers -/
theorem ipush {m : Mm} {b : Nat} {c : AV} {rest : List AV} {F : List Int} {s : List Nat} (hb : m.hp[b]? = some ⟨false, c :: rest⟩) (hr : RowAt m inC 1 c F s) (hbs : b ∉ s) (hW : Wf m) (x : Int) (hM : F.length ≤ 100000) :
    ∃ m' h', GivesW Try.prog 81 [.ptr b 0, .ifc 3 (iA x)] m (.tup []) m' ∧ m'.hp[b]? = some ⟨false, .lsl h' 0 (F.length + 1) 1 :: rest⟩ ∧ m'.hp[h']? = some (inB (F ++ [x])) ∧ h' ≠ b ∧ Kp m m' (b :: s) [b, h'] := by
  obtain ⟨m1, ha, hn, hlen, hk⟩ := row_app (e := 3) in_hk (by decide) Try.underlying58 info_int hr hW x (ex := true) (by omega) (by unfold maxLen; omega)
  have hbl := (List.getElem?_eq_some_iff.1 hb).1
  have hb1 : m1.hp[b]? = some ⟨false, c :: rest⟩ := hk.old b _ hbs hb
  have hp := hr.plain1
  have hbl1 : b < m1.hp.length := by omega
  have ha' : aAppendL Try.prog m 58 c (.c (.sl true 1 [.v (.int .i64 x)])) = some (.lsl m.hp.length 0 (F.length + 1) 1, m1) := ha
  have hrl : lows m.hp.length m.hw.length rest = true := by
    have := hW.low hb
    simp only [lows, Bool.and_eq_true] at this
    exact this.2
  refine ⟨⟨m1.hp.set b ⟨false, .lsl m.hp.length 0 (F.length + 1) 1 :: rest⟩, m1.hw⟩, m.hp.length, ?_, List.getElem?_set_self hbl1, ?_, by omega, ?_⟩
  · refine givesW_of' Try.func81 rfl (by kernel_rfl) Try.ntmps81 rfl rfl fun Q hQ => ?_
    repeat (first
        | refine tr_seq_k fun _ _ => ?_
        | (refine tr_region ?_; simp only [go_sem, List.getElem?_toArray, str_beq, reduceCtorEq, Nat.reduceEqDiff, Nat.reduceLT, Nat.reduceLeDiff, Nat.reduceAdd, Nat.reduceMul, Nat.reduceSub, Nat.reduceBEq, ↓reduceIte, bne_self_eq_false, Bool.and_false, Bool.false_and, Bool.true_or, Bool.false_or])
        | refine k_of (by assumption) ?_
        | refine tr_block ?_
        | refine tr_scope ?_
        | (refine tr_skip ?_; try simp only [ex_seq, ex_block])
        | (refine tr_label ?_; try simp only [ex_seq, ex_block])
        | (refine tr_exit ?_; try simp only [ex_seq_exit, ex_block_exit, Nat.reduceEqDiff, if_true, if_false, ex_seq, ex_block, reduceCtorEq, ↓reduceIte])
        | (refine tr_ret ?_; try simp only [ex_seq_ret, ex_block_ret]))
    refine tr_cond rfl (fun ht => ?_) (fun hf => ?_)
    · repeat (first
          | refine tr_seq_k fun _ _ => ?_
          | (refine tr_region ?_; simp only [go_sem, List.getElem?_toArray, str_beq, reduceCtorEq, Nat.reduceEqDiff, Nat.reduceLT, Nat.reduceLeDiff, Nat.reduceAdd, Nat.reduceMul, Nat.reduceSub, Nat.reduceBEq, ↓reduceIte, bne_self_eq_false, Bool.and_false, Bool.false_and, Bool.true_or, Bool.false_or, hb, ha', hb1, hp])
          | refine k_of (by assumption) ?_
          | refine tr_block ?_
          | refine tr_scope ?_
          | (refine tr_skip ?_; try simp only [ex_seq, ex_block])
          | (refine tr_label ?_; try simp only [ex_seq, ex_block])
          | (refine tr_exit ?_; try simp only [ex_seq_exit, ex_block_exit, Nat.reduceEqDiff, if_true, if_false, ex_seq, ex_block, reduceCtorEq, ↓reduceIte])
          | (refine tr_ret ?_; try simp only [ex_seq_ret, ex_block_ret]))
      refine (hQ _ _ [] rfl ?_ ?_).1
      · rfl
      · rfl
    · cases hf
  · show (m1.hp.set b _)[m.hp.length]? = _
    rw [List.getElem?_set_ne (by omega)]
    exact hn
  · refine ⟨hk.hw, by simp; omega, fun i blk hi h => ?_, fun i h => ?_, ?_⟩
    · simp only [List.mem_cons, not_or] at hi
      show (m1.hp.set b _)[i]? = _
      rw [List.getElem?_set_ne (Ne.symm hi.1)]
      exact hk.old i blk hi.2 h
    · simp only [List.mem_cons, List.not_mem_nil, or_false] at h
      rcases h with rfl | rfl
      · simp
      · exact Or.inr (Nat.le_refl _)
    · refine hk.wf.set ?_
      simp only [lows, low, Bool.and_eq_true, Nat.blt_eq]
      exact ⟨by omega, lows_mono (by omega) (by rw [hk.hw]; exact Nat.le_refl _) hrl⟩
theorem ipop {m : Mm} {b h N : Nat} {L : List Int} {rest : List AV} (hb : m.hp[b]? = some ⟨false, .lsl h 0 N 1 :: rest⟩) (hh : m.hp[h]? = some (inB L)) (hN : N ≤ L.length) (h0 : 0 < N) (hM : N ≤ 1000000) :
    GivesW Try.prog 80 [.ptr b 0] m (.ifc 3 (iA (L.getD (N - 1) 0))) ⟨m.hp.set b ⟨false, .lsl h 0 (N - 1) 1 :: rest⟩, m.hw⟩ := by
  have hbl := (List.getElem?_eq_some_iff.1 hb).1
  have w1 : IntKind.i64.wrap ((N : Int) - 1) = ((N - 1 : Nat) : Int) := wrap_pred h0 (by omega)
  have i1 := in_idx Try.underlying58 (b := h) (n := N) (i := N - 1) (by omega)
  have g1 := in_get (l := L) (i := N - 1) (by omega)
  have s1 := slL_to (P := Try.prog) (size := 1) Try.underlying58 sz3 (b := h) (lo := 0) (n := N) (k := N - 1) (by omega)
  rw [getD_eq (show N - 1 < L.length by omega)]
  refine givesW_of' Try.func80 rfl (by kernel_rfl) Try.ntmps80 rfl rfl fun Q hQ => ?_
  repeat (first
      | refine tr_seq_k fun _ _ => ?_
      | (refine tr_region ?_; simp only [go_sem, List.getElem?_toArray, str_beq, reduceCtorEq, Nat.reduceEqDiff, Nat.reduceLT, Nat.reduceLeDiff, Nat.reduceAdd, Nat.reduceMul, Nat.reduceSub, Nat.reduceBEq, ↓reduceIte, bne_self_eq_false, Bool.and_false, Bool.false_and, Bool.true_or, Bool.false_or, hb, w1, i1, hh, inB, g1, s1])
      | refine k_of (by assumption) ?_
      | refine tr_block ?_
      | refine tr_scope ?_
      | (refine tr_skip ?_; try simp only [ex_seq, ex_block])
      | (refine tr_label ?_; try simp only [ex_seq, ex_block])
      | (refine tr_exit ?_; try simp only [ex_seq_exit, ex_block_exit, Nat.reduceEqDiff, if_true, if_false, ex_seq, ex_block, reduceCtorEq, ↓reduceIte])
      | (refine tr_ret ?_; try simp only [ex_seq_ret, ex_block_ret]))
  refine (hQ _ _ [.ifc 3 (iA (L[N - 1]))] ?_ rfl rfl).2 <;> simp only [go_sem, List.getElem?_toArray, str_beq, reduceCtorEq, Nat.reduceEqDiff, Nat.reduceLT, Nat.reduceLeDiff, Nat.reduceAdd, Nat.reduceMul, Nat.reduceSub, Nat.reduceBEq, ↓reduceIte, bne_self_eq_false, Bool.and_false, Bool.false_and, Bool.true_or, Bool.false_or, Try.f80]
theorem hpush {m : Mm} {b : Nat} {c : AV} {rest : List AV} {F : List Int} {s : List Nat} (hb : m.hp[b]? = some ⟨false, c :: rest⟩) (hr : RowAt m inC 1 c F s) (hbs : b ∉ s) (hW : Wf m) (x : Int) (hM : F.length ≤ 100000) :
    ∃ m' h', GivesW Try.prog 32 [.ifc 67 (.ptr b 0), .ifc 3 (iA x)] m (.tup []) m' ∧ m'.hp[b]? = some ⟨false, .lsl h' 0 (F.length + 1) 1 :: rest⟩ ∧ m'.hp[h']? = some (inB (pushF F x)) ∧ h' ≠ b ∧ Kp m m' (b :: s) [b, h'] := by
  obtain ⟨m1, h', g1, g2, g3, g4, g5⟩ := ipush hb hr hbs hW x hM
  have hl := (List.getElem?_eq_some_iff.1 g3).1
  have hbl1 := (List.getElem?_eq_some_iff.1 g2).1
  have hm := mS_self g3
  have w1 : IntKind.i64.wrap (((F.length + 1 : Nat) : Int) - 1) = ((F.length : Nat) : Int) := by rw [wrap_in (by omega)]; omega
  have hup := up_gives (L := F ++ [x]) (j0 := F.length) hl g2 (Ne.symm g4) (by simp) (by omega) (by omega) g5.wf
  rw [hm] at hup
  have hlen := len_gives m1 h' (F.length + 1)
  refine ⟨mS m1 h' (pushF F x), h', ?_, ?_, mS_h hl _, g4, ?_⟩
  · refine givesW_of' Try.func32 rfl (by kernel_rfl) Try.ntmps32 rfl rfl fun Q hQ => ?_
    repeat (first
        | refine tr_seq_k fun _ _ => ?_
        | (refine tr_region ?_; simp only [go_sem, List.getElem?_toArray, str_beq, reduceCtorEq, Nat.reduceEqDiff, Nat.reduceLT, Nat.reduceLeDiff, Nat.reduceAdd, Nat.reduceMul, Nat.reduceSub, Nat.reduceBEq, ↓reduceIte, bne_self_eq_false, Bool.and_false, Bool.false_and, Bool.true_or, Bool.false_or, g2, w1])
        | (refine call_givesW (g1) ?_; (try dsimp only); (try simp only [go_sem, List.getElem?_toArray, str_beq, reduceCtorEq, Nat.reduceEqDiff, Nat.reduceLT, Nat.reduceLeDiff, Nat.reduceAdd, Nat.reduceMul, Nat.reduceSub, Nat.reduceBEq, ↓reduceIte, bne_self_eq_false, Bool.and_false, Bool.false_and, Bool.true_or, Bool.false_or, g2, w1]))
        | (refine call_givesW (hlen) ?_; (try dsimp only); (try simp only [go_sem, List.getElem?_toArray, str_beq, reduceCtorEq, Nat.reduceEqDiff, Nat.reduceLT, Nat.reduceLeDiff, Nat.reduceAdd, Nat.reduceMul, Nat.reduceSub, Nat.reduceBEq, ↓reduceIte, bne_self_eq_false, Bool.and_false, Bool.false_and, Bool.true_or, Bool.false_or, g2, w1]))
        | (refine call_givesW (hup) ?_; (try dsimp only); (try simp only [go_sem, List.getElem?_toArray, str_beq, reduceCtorEq, Nat.reduceEqDiff, Nat.reduceLT, Nat.reduceLeDiff, Nat.reduceAdd, Nat.reduceMul, Nat.reduceSub, Nat.reduceBEq, ↓reduceIte, bne_self_eq_false, Bool.and_false, Bool.false_and, Bool.true_or, Bool.false_or, g2, w1]))
        | refine k_of (by assumption) ?_
        | refine tr_block ?_
        | refine tr_scope ?_
        | (refine tr_skip ?_; try simp only [ex_seq, ex_block])
        | (refine tr_label ?_; try simp only [ex_seq, ex_block])
        | (refine tr_exit ?_; try simp only [ex_seq_exit, ex_block_exit, Nat.reduceEqDiff, if_true, if_false, ex_seq, ex_block, reduceCtorEq, ↓reduceIte])
        | (refine tr_ret ?_; try simp only [ex_seq_ret, ex_block_ret]))
    refine (hQ _ _ [] rfl ?_ ?_).1
    · rfl
    · rfl
  · rw [mS_b (Ne.symm g4)]
    exact g2
  · refine ⟨g5.hw, by rw [mS_len]; exact g5.len, fun i blk hi h => ?_, g5.new, g5.wf.mS _ _⟩
    have hih : i ≠ h' := fun e => by
      subst e
      rcases g5.new i (by simp) with h3 | h3
      · exact hi h3
      · have := (List.getElem?_eq_some_iff.1 h).1; omega
    rw [mS_b hih]
    exact g5.old i blk hi h

theorem hpop {m : Mm} {b h N : Nat} {L : List Int} {rest : List AV} (hb : m.hp[b]? = some ⟨false, .lsl h 0 N 1 :: rest⟩) (hh : m.hp[h]? = some (inB L)) (hbh : b ≠ h) (hN : N ≤ L.length) (hl : (popN L N).length = L.length) (h0 : 0 < N) (hM : N ≤ 1000000) (hW : Wf m) :
    GivesW Try.prog 30 [.ifc 67 (.ptr b 0)] m (.ifc 3 (iA ((popN L N).getD (N - 1) 0))) ⟨(mS m h (popN L N)).hp.set b ⟨false, .lsl h 0 (N - 1) 1 :: rest⟩, m.hw⟩ := by
  have hhl := (List.getElem?_eq_some_iff.1 hh).1
  have w1 : IntKind.i64.wrap ((N : Int) - 1) = ((N - 1 : Nat) : Int) := wrap_pred h0 (by omega)
  have c1 := len_gives m h N
  have c2 := swapS (L := L) hhl hN (i := 0) (k := N - 1) h0 (by omega)
  rw [mS_self hh] at c2
  have c3 := down_gives (b := b) (N := N) (n := N - 1) (L := swapL L 0 (N - 1)) hhl hb hbh (by rw [swapL_len]; exact hN) (by omega) hM hW
  have gb : ∀ K, (mS m h K).hp[b]? = some ⟨false, .lsl h 0 N 1 :: rest⟩ := fun K => by rw [mS_b hbh]; exact hb
  have c4 := ipop (gb (popN L N)) (mS_h hhl _) (by rw [hl]; exact hN) h0 hM
  refine givesW_of' Try.func30 rfl (by kernel_rfl) Try.ntmps30 rfl rfl fun Q hQ => ?_
  repeat (first
      | refine tr_seq_k fun _ _ => ?_
      | (refine tr_region ?_; simp only [go_sem, List.getElem?_toArray, str_beq, reduceCtorEq, Nat.reduceEqDiff, Nat.reduceLT, Nat.reduceLeDiff, Nat.reduceAdd, Nat.reduceMul, Nat.reduceSub, Nat.reduceBEq, ↓reduceIte, bne_self_eq_false, Bool.and_false, Bool.false_and, Bool.true_or, Bool.false_or, hb, w1, gb])
      | (refine call_givesW (c1) ?_; (try dsimp only); (try simp only [go_sem, List.getElem?_toArray, str_beq, reduceCtorEq, Nat.reduceEqDiff, Nat.reduceLT, Nat.reduceLeDiff, Nat.reduceAdd, Nat.reduceMul, Nat.reduceSub, Nat.reduceBEq, ↓reduceIte, bne_self_eq_false, Bool.and_false, Bool.false_and, Bool.true_or, Bool.false_or, hb, w1, gb]))
      | (refine call_givesW (c2) ?_; (try dsimp only); (try simp only [go_sem, List.getElem?_toArray, str_beq, reduceCtorEq, Nat.reduceEqDiff, Nat.reduceLT, Nat.reduceLeDiff, Nat.reduceAdd, Nat.reduceMul, Nat.reduceSub, Nat.reduceBEq, ↓reduceIte, bne_self_eq_false, Bool.and_false, Bool.false_and, Bool.true_or, Bool.false_or, hb, w1, gb]))
      | (refine call_givesW (c3) ?_; (try dsimp only); (try simp only [go_sem, List.getElem?_toArray, str_beq, reduceCtorEq, Nat.reduceEqDiff, Nat.reduceLT, Nat.reduceLeDiff, Nat.reduceAdd, Nat.reduceMul, Nat.reduceSub, Nat.reduceBEq, ↓reduceIte, bne_self_eq_false, Bool.and_false, Bool.false_and, Bool.true_or, Bool.false_or, hb, w1, gb]))
      | (refine call_givesW (c4) ?_; (try dsimp only); (try simp only [go_sem, List.getElem?_toArray, str_beq, reduceCtorEq, Nat.reduceEqDiff, Nat.reduceLT, Nat.reduceLeDiff, Nat.reduceAdd, Nat.reduceMul, Nat.reduceSub, Nat.reduceBEq, ↓reduceIte, bne_self_eq_false, Bool.and_false, Bool.false_and, Bool.true_or, Bool.false_or, hb, w1, gb]))
      | refine k_of (by assumption) ?_
      | refine tr_block ?_
      | refine tr_scope ?_
      | (refine tr_skip ?_; try simp only [ex_seq, ex_block])
      | (refine tr_label ?_; try simp only [ex_seq, ex_block])
      | (refine tr_exit ?_; try simp only [ex_seq_exit, ex_block_exit, Nat.reduceEqDiff, if_true, if_false, ex_seq, ex_block, reduceCtorEq, ↓reduceIte])
      | (refine tr_ret ?_; try simp only [ex_seq_ret, ex_block_ret]))
  refine (hQ _ _ [.ifc 3 (iA ((popN L N).getD (N - 1) 0))] ?_ rfl rfl).2 <;> simp only [go_sem, List.getElem?_toArray, str_beq, reduceCtorEq, Nat.reduceEqDiff, Nat.reduceLT, Nat.reduceLeDiff, Nat.reduceAdd, Nat.reduceMul, Nat.reduceSub, Nat.reduceBEq, ↓reduceIte, bne_self_eq_false, Bool.and_false, Bool.false_and, Bool.true_or, Bool.false_or, Try.f30]
end Go.Proofs.Ytlhlcfijpdknfaa

/-
  Chapter 2: a table in memory: New, has, Len, Text, Find, Uses.
-/
set_option linter.unusedSimpArgs false
set_option linter.unusedVariables false
namespace Go.Proofs.Ytlhlcfijpdknfaa
open Go.Vs Go.Vs.Ab Go.Vs.Hp Go.Vs.Tb
set_option maxRecDepth 100000
set_option maxHeartbeats 4000000

def enC (e : Ent) : List CV := [.v (.string e.1), .v (.int .i64 (e.2 : Int))]
theorem en_hk (e : Ent) : (enC e).length = 2 := rfl
theorem blC_get {T : Type} {enc : T → List CV} {size : Nat} (hk : ∀ x, (enc x).length = size) {L : List T} {k : Nat} (h : k < L.length) {j : Nat} (hj : j < size) : (blC enc L)[k * size + j]? = ((enc L[k]).map AV.c)[j]? := by
  have := drop_blC hk h
  rw [← List.getElem?_drop, this, List.getElem?_append_left (by rw [List.length_map, hk]; exact hj)]
theorem en_get0 {L : List Ent} {k : Nat} (h : k < L.length) : (blC enC L)[k * 2]? = some (sA L[k].1) := blC_get en_hk h (j := 0) (by decide)
theorem en_get1 {L : List Ent} {k : Nat} (h : k < L.length) : (blC enC L)[k * 2 + 1]? = some (iA (L[k].2 : Int)) := blC_get en_hk h (j := 1) (by decide)
theorem en_len (L : List Ent) : (blC enC L).length = L.length * 2 := len_blC en_hk L
theorem en_set {L : List Ent} {k : Nat} (h : k < L.length) (x : Ent) : List.take (k * 2) (blC enC L) ++ [sA x.1, iA (x.2 : Int)] ++ List.drop (k * 2 + 2) (blC enC L) = blC enC (L.set k x) := set_blC en_hk h x
theorem en_set1 {L : List Ent} {k : Nat} (h : k < L.length) (u : Nat) : List.take (k * 2 + 1) (blC enC L) ++ [iA (u : Int)] ++ List.drop (k * 2 + 1 + 1) (blC enC L) = blC enC (L.set k (L[k].1, u)) := by
  rw [← en_set h, List.take_add_one, en_get0 h]
  simp
theorem en_idx {b n i : Nat} (h : i < n) : aIndexL Try.prog 61 (.lsl b 0 n 2) (iA i) = some (.ptr b (i * 2)) := by
  have := idxL (P := Try.prog) (size := 2) Try.underlying61 sz65 (by decide) (b := b) (lo := 0) (ik := .i64) h
  simpa using this
theorem en_fit0 {L : List Ent} {i : Nat} (h : i < L.length) : (i * 2 + 2 ≤ (blC enC L).length) = True := eq_true (by rw [en_len]; omega)
theorem en_fit1 {L : List Ent} {i : Nat} (h : i < L.length) : (i * 2 + 1 + 1 ≤ (blC enC L).length) = True := eq_true (by rw [en_len]; omega)

/-- The entries of a map from texts to numbers. -/
def nmI (N : List (ByteArray × Nat)) : List (Value × Value) := encE .string (N.map fun p => (p.1, .int .i64 (p.2 : Nat)))
theorem nmI_len (N : List (ByteArray × Nat)) : (nmI N).length = N.length := by simp [nmI, encE]
theorem nmI_keys (N : List (ByteArray × Nat)) : (N.map fun p => (p.1, Value.int .i64 (p.2 : Nat))).map (·.1) = N.map Prod.fst := by
  rw [List.map_map]
  rfl
theorem nmI_none {kt : TypeId} (ht : Try.prog.underlying kt = some .string) {N : List (ByteArray × Nat)} {s : ByteArray} (h : s ∉ N.map Prod.fst) (em : Bool) : mLook Try.prog kt (nmI N) (.string s) em = some none := by
  unfold nmI
  rw [mLook_str ht, findE_none (by rw [nmI_keys]; exact h)]
theorem nmI_some {kt : TypeId} (ht : Try.prog.underlying kt = some .string) {N : List (ByteArray × Nat)} {s : ByteArray} {n : Nat} (hnd : (N.map Prod.fst).Nodup) (h : (s, n) ∈ N) (em : Bool) : ∃ k, mLook Try.prog kt (nmI N) (.string s) em = some (some (k, .int .i64 (n : Nat))) ∧ N[k]? = some (s, n) := by
  have hm : s ∈ (N.map fun p => (p.1, Value.int .i64 (p.2 : Nat))).map (·.1) := by
    rw [nmI_keys]
    exact List.mem_map.2 ⟨_, h, rfl⟩
  obtain ⟨k, v, g1, g2, g3, g4⟩ := findE_some (i := 0) hm
  rw [List.getElem?_map, Option.map_eq_some_iff] at g2
  obtain ⟨⟨t, j⟩, g5, g6⟩ := g2
  injection g6 with g6 g7
  simp only at g6 g7
  subst g6 g7
  have hj : j = n := by
    rw [List.nodup_iff_pairwise_ne, List.pairwise_map, List.pairwise_iff_getElem] at hnd
    obtain ⟨a, ha, ha2⟩ := List.mem_iff_getElem.1 h
    obtain ⟨hk, hk2⟩ := List.getElem?_eq_some_iff.1 g5
    rcases Nat.lt_trichotomy a k with hak | hak | hak
    · exact absurd (by rw [ha2, hk2]) (hnd a k ha hk hak)
    · subst hak
      rw [ha2] at hk2
      injection hk2 with _ hk2
      exact hk2.symm
    · exact absurd (by rw [ha2, hk2]) (hnd k a hk ha hak)
  subst hj
  refine ⟨k, ?_, g5⟩
  unfold nmI
  rw [mLook_str ht, g4, Nat.zero_add]

theorem take_get {T : Type} {E L : List T} (h : E = L.take E.length) {k : Nat} (hk : k < E.length) (hkL : k < L.length) : E[k] = L[k] := by
  have e : E[k]? = L[k]? := by rw [h, List.getElem?_take, if_pos hk]
  rw [List.getElem?_eq_getElem hk, List.getElem?_eq_getElem hkL] at e
  exact Option.some.inj e
/-- A table in memory: its block; S: the blocks that are its own. -/
def TabM (m : Mm) (b : Nat) (E : List Ent) (S : List Nat) : Prop := ∃ c1 c2 mb F N s1 s2, m.hp[b]? = some ⟨false, [c1, c2, .mapp mb]⟩ ∧ RowAt m inC 1 c1 F s1 ∧ RowAt m enC 2 c2 E s2 ∧ m.hp[mb]? = some ⟨false, [.ent (nmI N)]⟩ ∧ Inv F E N ∧ S = b :: mb :: (s1 ++ s2) ∧ S.Nodup

theorem TabM.keep {m m' : Mm} {S S' : List Nat} (k : Kp m m' S S') {b : Nat} {E : List Ent} {T : List Nat} (h : TabM m b E T) (hd : ∀ i ∈ T, i ∉ S) : TabM m' b E T := by
  obtain ⟨c1, c2, mb, F, N, s1, s2, h1, h2, h3, h4, h5, h6, h7⟩ := h
  subst h6
  exact ⟨c1, c2, mb, F, N, s1, s2, k.old b _ (hd b (by simp)) h1, h2.keep k (fun i hi => hd i (by simp [hi])), h3.keep k (fun i hi => hd i (by simp [hi])), k.old mb _ (hd mb (by simp)) h4, h5, rfl, h7⟩
theorem TabM.lt {m : Mm} {b : Nat} {E : List Ent} {T : List Nat} (h : TabM m b E T) : b < m.hp.length := by
  obtain ⟨c1, c2, mb, F, N, s1, s2, h1, _⟩ := h
  exact (List.getElem?_eq_some_iff.1 h1).1

theorem avOf_pnil : avOf (.pointer none) = some (.c (.v (.pointer none))) := rfl
attribute [go_sem] avOf_pnil
theorem new_gives {m : Mm} (hW : Wf m) : ∃ m' b S, GivesW Try.prog 9 [] m (.ptr b 0) m' ∧ TabM m' b [] S ∧ Kp m m' [] S := by
  refine ⟨⟨m.hp ++ [⟨false, [.ent []]⟩] ++ [⟨false, [.c (.sl true 0 []), .c (.sl true 0 []), .mapp m.hp.length]⟩], m.hw⟩, m.hp.length + 1, [m.hp.length + 1, m.hp.length], ?_, ?_, ?_⟩
  · refine givesW_of' Try.func9 rfl (by kernel_rfl) Try.ntmps9 rfl rfl fun Q hQ => ?_
    repeat (first
        | refine tr_seq_k fun _ _ => ?_
        | (refine tr_region ?_; simp only [go_sem, List.getElem?_toArray, str_beq, reduceCtorEq, Nat.reduceEqDiff, Nat.reduceLT, Nat.reduceLeDiff, Nat.reduceAdd, Nat.reduceMul, Nat.reduceSub, Nat.reduceBEq, ↓reduceIte, bne_self_eq_false, Bool.and_false, Bool.false_and, Bool.true_or, Bool.false_or, List.length_append])
        | refine k_of (by assumption) ?_
        | refine tr_block ?_
        | refine tr_scope ?_
        | (refine tr_skip ?_; try simp only [ex_seq, ex_block])
        | (refine tr_label ?_; try simp only [ex_seq, ex_block])
        | (refine tr_exit ?_; try simp only [ex_seq_exit, ex_block_exit, Nat.reduceEqDiff, if_true, if_false, ex_seq, ex_block, reduceCtorEq, ↓reduceIte])
        | (refine tr_ret ?_; try simp only [ex_seq_ret, ex_block_ret]))
    refine (hQ _ _ [.ptr (m.hp.length + 1) 0] ?_ rfl rfl).2 <;> simp only [go_sem, List.getElem?_toArray, str_beq, reduceCtorEq, Nat.reduceEqDiff, Nat.reduceLT, Nat.reduceLeDiff, Nat.reduceAdd, Nat.reduceMul, Nat.reduceSub, Nat.reduceBEq, ↓reduceIte, bne_self_eq_false, Bool.and_false, Bool.false_and, Bool.true_or, Bool.false_or, Try.f9]
  · refine ⟨.c (.sl true 0 []), .c (.sl true 0 []), m.hp.length, [], [], [], [], ?_, Or.inl ⟨rfl, rfl, rfl⟩, Or.inl ⟨rfl, rfl, rfl⟩, ?_, Inv.new, rfl, by simp⟩
    · simp
    · simp [nmI, encE]
  · refine ⟨rfl, by simp, fun i blk _ h => ?_, fun i h => Or.inr (by simp at h; omega), ?_⟩
    · have := (List.getElem?_eq_some_iff.1 h).1
      rw [List.getElem?_append_left (by simp; omega), List.getElem?_append_left this]
      exact h
    · have w1 := hW.add (nb := ⟨false, [.ent []]⟩) rfl
      have := w1.add (nb := ⟨false, [.c (.sl true 0 []), .c (.sl true 0 []), .mapp m.hp.length]⟩) (by simp [lows, low]; omega)
      exact this

theorem has_gives {m : Mm} {b : Nat} {E : List Ent} {S : List Nat} (h : TabM m b E S) (n : Int) : GivesW Try.prog 31 [.ptr b 0, iA n] m (bA (hasS E n)) m := by
  obtain ⟨c1, c2, mb, F, N, s1, s2, hb, hF, hE, hN, hI, hS, hnd⟩ := h
  have p1 := hF.plain1
  cases h0 : decide ((0 : Int) ≤ n) with
  | false =>
    have hr : hasS E n = false := by unfold hasS; rw [h0]; rfl
    refine givesW_of' Try.func31 rfl (by kernel_rfl) Try.ntmps31 rfl rfl fun Q hQ => ?_
    repeat (first
        | refine tr_seq_k fun _ _ => ?_
        | (refine tr_region ?_; simp only [go_sem, List.getElem?_toArray, str_beq, reduceCtorEq, Nat.reduceEqDiff, Nat.reduceLT, Nat.reduceLeDiff, Nat.reduceAdd, Nat.reduceMul, Nat.reduceSub, Nat.reduceBEq, ↓reduceIte, bne_self_eq_false, Bool.and_false, Bool.false_and, Bool.true_or, Bool.false_or, hb, h0, p1])
        | refine k_of (by assumption) ?_
        | refine tr_block ?_
        | refine tr_scope ?_
        | (refine tr_skip ?_; try simp only [ex_seq, ex_block])
        | (refine tr_label ?_; try simp only [ex_seq, ex_block])
        | (refine tr_exit ?_; try simp only [ex_seq_exit, ex_block_exit, Nat.reduceEqDiff, if_true, if_false, ex_seq, ex_block, reduceCtorEq, ↓reduceIte])
        | (refine tr_ret ?_; try simp only [ex_seq_ret, ex_block_ret]))
    refine (hQ _ _ [bA false] ?_ (by rw [hr]; rfl) rfl).2 <;> simp only [go_sem, List.getElem?_toArray, str_beq, reduceCtorEq, Nat.reduceEqDiff, Nat.reduceLT, Nat.reduceLeDiff, Nat.reduceAdd, Nat.reduceMul, Nat.reduceSub, Nat.reduceBEq, ↓reduceIte, bne_self_eq_false, Bool.and_false, Bool.false_and, Bool.true_or, Bool.false_or, Try.f31]
  | true =>
    obtain ⟨k, rfl⟩ : ∃ k : Nat, n = (k : Int) := ⟨n.toNat, by have := of_decide_eq_true h0; omega⟩
    rcases hE with ⟨rfl, rfl, _⟩ | ⟨h, L, rfl, _, hL, hEL⟩
    · have hr : hasS [] (k : Int) = false := by unfold hasS; simp
      have h1 : decide ((k : Int) < ((0 : Nat) : Int)) = false := decide_eq_false (by omega)
      refine givesW_of' Try.func31 rfl (by kernel_rfl) Try.ntmps31 rfl rfl fun Q hQ => ?_
      repeat (first
          | refine tr_seq_k fun _ _ => ?_
          | (refine tr_region ?_; simp only [go_sem, List.getElem?_toArray, str_beq, reduceCtorEq, Nat.reduceEqDiff, Nat.reduceLT, Nat.reduceLeDiff, Nat.reduceAdd, Nat.reduceMul, Nat.reduceSub, Nat.reduceBEq, ↓reduceIte, bne_self_eq_false, Bool.and_false, Bool.false_and, Bool.true_or, Bool.false_or, hb, h0, p1, h1])
          | refine k_of (by assumption) ?_
          | refine tr_block ?_
          | refine tr_scope ?_
          | (refine tr_skip ?_; try simp only [ex_seq, ex_block])
          | (refine tr_label ?_; try simp only [ex_seq, ex_block])
          | (refine tr_exit ?_; try simp only [ex_seq_exit, ex_block_exit, Nat.reduceEqDiff, if_true, if_false, ex_seq, ex_block, reduceCtorEq, ↓reduceIte])
          | (refine tr_ret ?_; try simp only [ex_seq_ret, ex_block_ret]))
      refine (hQ _ _ [bA false] ?_ (by rw [hr]; rfl) rfl).2 <;> simp only [go_sem, List.getElem?_toArray, str_beq, reduceCtorEq, Nat.reduceEqDiff, Nat.reduceLT, Nat.reduceLeDiff, Nat.reduceAdd, Nat.reduceMul, Nat.reduceSub, Nat.reduceBEq, ↓reduceIte, bne_self_eq_false, Bool.and_false, Bool.false_and, Bool.true_or, Bool.false_or, Try.f31]
    · by_cases hk : k < E.length
      · have h1 : decide ((k : Int) < ((E.length : Nat) : Int)) = true := decide_eq_true (by omega)
        have hle : E.length ≤ L.length := by
          have := congrArg List.length hEL
          rw [List.length_take] at this
          omega
        have hkL : k < L.length := by omega
        have hge : E[k] = L[k] := by
          exact take_get hEL hk hkL
        have hr : hasS E (k : Int) = decide ((0 : Int) < ((L[k]).2 : Nat)) := by
          unfold hasS
          rw [h0, Int.toNat_natCast, List.getElem?_eq_getElem hk, hge]
          have hz := hI.zero k E[k] (List.getElem?_eq_getElem hk)
          rw [hge] at hz
          simp only [liveB, Bool.true_and]
          by_cases he : (L[k]).1 = emp
          · have := hz.2 he
            rw [this]
            simp [he]
          · have : (L[k]).2 ≠ 0 := fun e => he (hz.1 e)
            simp [he]
            omega
        have i1 := en_idx (b := h) (n := E.length) hk
        have g1 := en_get1 hkL
        have p2 : plainB (blC enC L) = true := plainB_blC
        refine givesW_of' Try.func31 rfl (by kernel_rfl) Try.ntmps31 rfl rfl fun Q hQ => ?_
        repeat (first
            | refine tr_seq_k fun _ _ => ?_
            | (refine tr_region ?_; simp only [go_sem, List.getElem?_toArray, str_beq, reduceCtorEq, Nat.reduceEqDiff, Nat.reduceLT, Nat.reduceLeDiff, Nat.reduceAdd, Nat.reduceMul, Nat.reduceSub, Nat.reduceBEq, ↓reduceIte, bne_self_eq_false, Bool.and_false, Bool.false_and, Bool.true_or, Bool.false_or, hb, h0, p1, h1, hL, i1, g1])
            | refine k_of (by assumption) ?_
            | refine tr_block ?_
            | refine tr_scope ?_
            | (refine tr_skip ?_; try simp only [ex_seq, ex_block])
            | (refine tr_label ?_; try simp only [ex_seq, ex_block])
            | (refine tr_exit ?_; try simp only [ex_seq_exit, ex_block_exit, Nat.reduceEqDiff, if_true, if_false, ex_seq, ex_block, reduceCtorEq, ↓reduceIte])
            | (refine tr_ret ?_; try simp only [ex_seq_ret, ex_block_ret]))
        refine (hQ _ _ [bA (decide ((0 : Int) < ((L[k]).2 : Nat)))] ?_ (by rw [hr]; rfl) rfl).2 <;> simp only [go_sem, List.getElem?_toArray, str_beq, reduceCtorEq, Nat.reduceEqDiff, Nat.reduceLT, Nat.reduceLeDiff, Nat.reduceAdd, Nat.reduceMul, Nat.reduceSub, Nat.reduceBEq, ↓reduceIte, bne_self_eq_false, Bool.and_false, Bool.false_and, Bool.true_or, Bool.false_or, Try.f31]
      · have h1 : decide ((k : Int) < ((E.length : Nat) : Int)) = false := decide_eq_false (by omega)
        have hr : hasS E (k : Int) = false := by
          unfold hasS
          rw [Int.toNat_natCast, List.getElem?_eq_none (by omega)]
          simp
        refine givesW_of' Try.func31 rfl (by kernel_rfl) Try.ntmps31 rfl rfl fun Q hQ => ?_
        repeat (first
            | refine tr_seq_k fun _ _ => ?_
            | (refine tr_region ?_; simp only [go_sem, List.getElem?_toArray, str_beq, reduceCtorEq, Nat.reduceEqDiff, Nat.reduceLT, Nat.reduceLeDiff, Nat.reduceAdd, Nat.reduceMul, Nat.reduceSub, Nat.reduceBEq, ↓reduceIte, bne_self_eq_false, Bool.and_false, Bool.false_and, Bool.true_or, Bool.false_or, hb, h0, p1, h1])
            | refine k_of (by assumption) ?_
            | refine tr_block ?_
            | refine tr_scope ?_
            | (refine tr_skip ?_; try simp only [ex_seq, ex_block])
            | (refine tr_label ?_; try simp only [ex_seq, ex_block])
            | (refine tr_exit ?_; try simp only [ex_seq_exit, ex_block_exit, Nat.reduceEqDiff, if_true, if_false, ex_seq, ex_block, reduceCtorEq, ↓reduceIte])
            | (refine tr_ret ?_; try simp only [ex_seq_ret, ex_block_ret]))
        refine (hQ _ _ [bA false] ?_ (by rw [hr]; rfl) rfl).2 <;> simp only [go_sem, List.getElem?_toArray, str_beq, reduceCtorEq, Nat.reduceEqDiff, Nat.reduceLT, Nat.reduceLeDiff, Nat.reduceAdd, Nat.reduceMul, Nat.reduceSub, Nat.reduceBEq, ↓reduceIte, bne_self_eq_false, Bool.and_false, Bool.false_and, Bool.true_or, Bool.false_or, Try.f31]

theorem len_tab {m : Mm} {b : Nat} {E : List Ent} {S : List Nat} (h : TabM m b E S) : GivesW Try.prog 13 [.ptr b 0] m (iA (liveN E : Nat)) m := by
  obtain ⟨c1, c2, mb, F, N, s1, s2, hb, hF, hE, hN, hI, hS, hnd⟩ := h
  have p1 := hF.plain1
  rw [← hI.len]
  refine givesW_of' Try.func13 rfl (by kernel_rfl) Try.ntmps13 rfl rfl fun Q hQ => ?_
  repeat (first
      | refine tr_seq_k fun _ _ => ?_
      | (refine tr_region ?_; simp only [go_sem, List.getElem?_toArray, str_beq, reduceCtorEq, Nat.reduceEqDiff, Nat.reduceLT, Nat.reduceLeDiff, Nat.reduceAdd, Nat.reduceMul, Nat.reduceSub, Nat.reduceBEq, ↓reduceIte, bne_self_eq_false, Bool.and_false, Bool.false_and, Bool.true_or, Bool.false_or])
      | refine k_of (by assumption) ?_
      | refine tr_block ?_
      | refine tr_scope ?_
      | (refine tr_skip ?_; try simp only [ex_seq, ex_block])
      | (refine tr_label ?_; try simp only [ex_seq, ex_block])
      | (refine tr_exit ?_; try simp only [ex_seq_exit, ex_block_exit, Nat.reduceEqDiff, if_true, if_false, ex_seq, ex_block, reduceCtorEq, ↓reduceIte])
      | (refine tr_ret ?_; try simp only [ex_seq_ret, ex_block_ret]))
  refine tr_cond rfl (fun ht => ?_) (fun hf => ?_)
  · cases ht
  · repeat (first
        | refine tr_seq_k fun _ _ => ?_
        | (refine tr_region ?_; simp only [go_sem, List.getElem?_toArray, str_beq, reduceCtorEq, Nat.reduceEqDiff, Nat.reduceLT, Nat.reduceLeDiff, Nat.reduceAdd, Nat.reduceMul, Nat.reduceSub, Nat.reduceBEq, ↓reduceIte, bne_self_eq_false, Bool.and_false, Bool.false_and, Bool.true_or, Bool.false_or, hb, p1, hN, nmI_len])
        | refine k_of (by assumption) ?_
        | refine tr_block ?_
        | refine tr_scope ?_
        | (refine tr_skip ?_; try simp only [ex_seq, ex_block])
        | (refine tr_label ?_; try simp only [ex_seq, ex_block])
        | (refine tr_exit ?_; try simp only [ex_seq_exit, ex_block_exit, Nat.reduceEqDiff, if_true, if_false, ex_seq, ex_block, reduceCtorEq, ↓reduceIte])
        | (refine tr_ret ?_; try simp only [ex_seq_ret, ex_block_ret]))
    refine (hQ _ _ [iA (N.length : Nat)] ?_ rfl rfl).2 <;> simp only [go_sem, List.getElem?_toArray, str_beq, reduceCtorEq, Nat.reduceEqDiff, Nat.reduceLT, Nat.reduceLeDiff, Nat.reduceAdd, Nat.reduceMul, Nat.reduceSub, Nat.reduceBEq, ↓reduceIte, bne_self_eq_false, Bool.and_false, Bool.false_and, Bool.true_or, Bool.false_or, Try.f13]
def textS (E : List Ent) (n : Int) : ByteArray := if hasS E n then (E.getD n.toNat (emp, 0)).1 else emp
def usesS (E : List Ent) (n : Int) : Nat := if hasS E n then (E.getD n.toNat (emp, 0)).2 else 0
theorem hasS_spec {E : List Ent} {n : Int} (h : hasS E n = true) : ∃ k, n = ((k : Nat) : Int) ∧ ∃ hk : k < E.length, (E[k]).1 ≠ emp := by
  unfold hasS at h
  rw [Bool.and_eq_true] at h
  have h1 := of_decide_eq_true h.1
  refine ⟨n.toNat, by omega, ?_⟩
  have h2 := h.2
  split at h2
  · rename_i e he
    obtain ⟨hk, hk2⟩ := List.getElem?_eq_some_iff.1 he
    refine ⟨hk, ?_⟩
    rw [hk2]
    simpa [liveB] using h2
  · cases h2
theorem row_get {m : Mm} {c : AV} {E : List Ent} {s : List Nat} (h : RowAt m enC 2 c E s) {k : Nat} (hk : k < E.length) : ∃ h L, c = .lsl h 0 E.length 2 ∧ s = [h] ∧ m.hp[h]? = some ⟨false, blC enC L⟩ ∧ E = L.take E.length ∧ ∃ hkL : k < L.length, L[k] = E[k] := by
  rcases h with ⟨rfl, _⟩ | ⟨h, L, hc, hs, hL, hEL⟩
  · simp at hk
  · have hle : E.length ≤ L.length := by
      have := congrArg List.length hEL
      rw [List.length_take] at this
      omega
    refine ⟨h, L, hc, hs, hL, hEL, by omega, ?_⟩
    exact (take_get hEL hk _).symm
theorem getD_at {E : List Ent} {k : Nat} (hk : k < E.length) : E.getD k (emp, 0) = E[k] := by
  rw [List.getD_eq_getElem?_getD, List.getElem?_eq_getElem hk]
  rfl
theorem text_tab {m : Mm} {b : Nat} {E : List Ent} {S : List Nat} (h : TabM m b E S) (n : Int) : GivesW Try.prog 14 [.ptr b 0, iA n] m (.tup [sA (textS E n), iA (if hasS E n then 0 else 13)]) m := by
  have hh := has_gives h n
  obtain ⟨c1, c2, mb, F, N, s1, s2, hb, hF, hE, hN, hI, hS, hnd⟩ := h
  have p1 := hF.plain1
  cases h0 : hasS E n with
  | false =>
    rw [h0] at hh
    have hr : textS E n = emp := by unfold textS; rw [h0]; rfl
    rw [hr]
    refine givesW_of' Try.func14 rfl (by kernel_rfl) Try.ntmps14 rfl rfl fun Q hQ => ?_
    repeat (first
        | refine tr_seq_k fun _ _ => ?_
        | (refine tr_region ?_; simp only [go_sem, List.getElem?_toArray, str_beq, reduceCtorEq, Nat.reduceEqDiff, Nat.reduceLT, Nat.reduceLeDiff, Nat.reduceAdd, Nat.reduceMul, Nat.reduceSub, Nat.reduceBEq, ↓reduceIte, bne_self_eq_false, Bool.and_false, Bool.false_and, Bool.true_or, Bool.false_or])
        | (refine call_givesW (hh) ?_; (try dsimp only); (try simp only [go_sem, List.getElem?_toArray, str_beq, reduceCtorEq, Nat.reduceEqDiff, Nat.reduceLT, Nat.reduceLeDiff, Nat.reduceAdd, Nat.reduceMul, Nat.reduceSub, Nat.reduceBEq, ↓reduceIte, bne_self_eq_false, Bool.and_false, Bool.false_and, Bool.true_or, Bool.false_or]))
        | refine k_of (by assumption) ?_
        | refine tr_block ?_
        | refine tr_scope ?_
        | (refine tr_skip ?_; try simp only [ex_seq, ex_block])
        | (refine tr_label ?_; try simp only [ex_seq, ex_block])
        | (refine tr_exit ?_; try simp only [ex_seq_exit, ex_block_exit, Nat.reduceEqDiff, if_true, if_false, ex_seq, ex_block, reduceCtorEq, ↓reduceIte])
        | (refine tr_ret ?_; try simp only [ex_seq_ret, ex_block_ret]))
    refine tr_cond rfl (fun ht => ?_) (fun hf => ?_)
    · cases ht
    · repeat (first
          | refine tr_seq_k fun _ _ => ?_
          | (refine tr_region ?_; simp only [go_sem, List.getElem?_toArray, str_beq, reduceCtorEq, Nat.reduceEqDiff, Nat.reduceLT, Nat.reduceLeDiff, Nat.reduceAdd, Nat.reduceMul, Nat.reduceSub, Nat.reduceBEq, ↓reduceIte, bne_self_eq_false, Bool.and_false, Bool.false_and, Bool.true_or, Bool.false_or])
          | (refine call_givesW (hh) ?_; (try dsimp only); (try simp only [go_sem, List.getElem?_toArray, str_beq, reduceCtorEq, Nat.reduceEqDiff, Nat.reduceLT, Nat.reduceLeDiff, Nat.reduceAdd, Nat.reduceMul, Nat.reduceSub, Nat.reduceBEq, ↓reduceIte, bne_self_eq_false, Bool.and_false, Bool.false_and, Bool.true_or, Bool.false_or]))
          | refine k_of (by assumption) ?_
          | refine tr_block ?_
          | refine tr_scope ?_
          | (refine tr_skip ?_; try simp only [ex_seq, ex_block])
          | (refine tr_label ?_; try simp only [ex_seq, ex_block])
          | (refine tr_exit ?_; try simp only [ex_seq_exit, ex_block_exit, Nat.reduceEqDiff, if_true, if_false, ex_seq, ex_block, reduceCtorEq, ↓reduceIte])
          | (refine tr_ret ?_; try simp only [ex_seq_ret, ex_block_ret]))
      refine tr_cond rfl (fun ht => ?_) (fun hf => ?_)
      · repeat (first
            | refine tr_seq_k fun _ _ => ?_
            | (refine tr_region ?_; simp only [go_sem, List.getElem?_toArray, str_beq, reduceCtorEq, Nat.reduceEqDiff, Nat.reduceLT, Nat.reduceLeDiff, Nat.reduceAdd, Nat.reduceMul, Nat.reduceSub, Nat.reduceBEq, ↓reduceIte, bne_self_eq_false, Bool.and_false, Bool.false_and, Bool.true_or, Bool.false_or])
            | refine k_of (by assumption) ?_
            | refine tr_block ?_
            | refine tr_scope ?_
            | (refine tr_skip ?_; try simp only [ex_seq, ex_block])
            | (refine tr_label ?_; try simp only [ex_seq, ex_block])
            | (refine tr_exit ?_; try simp only [ex_seq_exit, ex_block_exit, Nat.reduceEqDiff, if_true, if_false, ex_seq, ex_block, reduceCtorEq, ↓reduceIte])
            | (refine tr_ret ?_; try simp only [ex_seq_ret, ex_block_ret]))
        refine (hQ _ _ [sA ⟨#[]⟩, iA 13] ?_ rfl rfl).2 <;> simp only [go_sem, List.getElem?_toArray, str_beq, reduceCtorEq, Nat.reduceEqDiff, Nat.reduceLT, Nat.reduceLeDiff, Nat.reduceAdd, Nat.reduceMul, Nat.reduceSub, Nat.reduceBEq, ↓reduceIte, bne_self_eq_false, Bool.and_false, Bool.false_and, Bool.true_or, Bool.false_or, Try.f14]
      · cases hf
  | true =>
    rw [h0] at hh
    obtain ⟨k, rfl, hk, hne⟩ := hasS_spec h0
    obtain ⟨h, L, rfl, _, hL, hEL, hkL, hg⟩ := row_get hE hk
    have hr : textS E (k : Int) = (L[k]).1 := by
      unfold textS
      rw [h0, if_pos rfl, Int.toNat_natCast, getD_at hk, hg]
    rw [hr]
    have i1 := en_idx (b := h) (n := E.length) hk
    have g1 := en_get0 hkL
    refine givesW_of' Try.func14 rfl (by kernel_rfl) Try.ntmps14 rfl rfl fun Q hQ => ?_
    repeat (first
        | refine tr_seq_k fun _ _ => ?_
        | (refine tr_region ?_; simp only [go_sem, List.getElem?_toArray, str_beq, reduceCtorEq, Nat.reduceEqDiff, Nat.reduceLT, Nat.reduceLeDiff, Nat.reduceAdd, Nat.reduceMul, Nat.reduceSub, Nat.reduceBEq, ↓reduceIte, bne_self_eq_false, Bool.and_false, Bool.false_and, Bool.true_or, Bool.false_or])
        | (refine call_givesW (hh) ?_; (try dsimp only); (try simp only [go_sem, List.getElem?_toArray, str_beq, reduceCtorEq, Nat.reduceEqDiff, Nat.reduceLT, Nat.reduceLeDiff, Nat.reduceAdd, Nat.reduceMul, Nat.reduceSub, Nat.reduceBEq, ↓reduceIte, bne_self_eq_false, Bool.and_false, Bool.false_and, Bool.true_or, Bool.false_or]))
        | refine k_of (by assumption) ?_
        | refine tr_block ?_
        | refine tr_scope ?_
        | (refine tr_skip ?_; try simp only [ex_seq, ex_block])
        | (refine tr_label ?_; try simp only [ex_seq, ex_block])
        | (refine tr_exit ?_; try simp only [ex_seq_exit, ex_block_exit, Nat.reduceEqDiff, if_true, if_false, ex_seq, ex_block, reduceCtorEq, ↓reduceIte])
        | (refine tr_ret ?_; try simp only [ex_seq_ret, ex_block_ret]))
    refine tr_cond rfl (fun ht => ?_) (fun hf => ?_)
    · cases ht
    · repeat (first
          | refine tr_seq_k fun _ _ => ?_
          | (refine tr_region ?_; simp only [go_sem, List.getElem?_toArray, str_beq, reduceCtorEq, Nat.reduceEqDiff, Nat.reduceLT, Nat.reduceLeDiff, Nat.reduceAdd, Nat.reduceMul, Nat.reduceSub, Nat.reduceBEq, ↓reduceIte, bne_self_eq_false, Bool.and_false, Bool.false_and, Bool.true_or, Bool.false_or])
          | (refine call_givesW (hh) ?_; (try dsimp only); (try simp only [go_sem, List.getElem?_toArray, str_beq, reduceCtorEq, Nat.reduceEqDiff, Nat.reduceLT, Nat.reduceLeDiff, Nat.reduceAdd, Nat.reduceMul, Nat.reduceSub, Nat.reduceBEq, ↓reduceIte, bne_self_eq_false, Bool.and_false, Bool.false_and, Bool.true_or, Bool.false_or]))
          | refine k_of (by assumption) ?_
          | refine tr_block ?_
          | refine tr_scope ?_
          | (refine tr_skip ?_; try simp only [ex_seq, ex_block])
          | (refine tr_label ?_; try simp only [ex_seq, ex_block])
          | (refine tr_exit ?_; try simp only [ex_seq_exit, ex_block_exit, Nat.reduceEqDiff, if_true, if_false, ex_seq, ex_block, reduceCtorEq, ↓reduceIte])
          | (refine tr_ret ?_; try simp only [ex_seq_ret, ex_block_ret]))
      refine tr_cond rfl (fun ht => ?_) (fun hf => ?_)
      · cases ht
      · repeat (first
            | refine tr_seq_k fun _ _ => ?_
            | (refine tr_region ?_; simp only [go_sem, List.getElem?_toArray, str_beq, reduceCtorEq, Nat.reduceEqDiff, Nat.reduceLT, Nat.reduceLeDiff, Nat.reduceAdd, Nat.reduceMul, Nat.reduceSub, Nat.reduceBEq, ↓reduceIte, bne_self_eq_false, Bool.and_false, Bool.false_and, Bool.true_or, Bool.false_or, hb, p1, hL, i1, g1])
            | refine k_of (by assumption) ?_
            | refine tr_block ?_
            | refine tr_scope ?_
            | (refine tr_skip ?_; try simp only [ex_seq, ex_block])
            | (refine tr_label ?_; try simp only [ex_seq, ex_block])
            | (refine tr_exit ?_; try simp only [ex_seq_exit, ex_block_exit, Nat.reduceEqDiff, if_true, if_false, ex_seq, ex_block, reduceCtorEq, ↓reduceIte])
            | (refine tr_ret ?_; try simp only [ex_seq_ret, ex_block_ret]))
        refine (hQ _ _ [sA (L[k]).1, iA 0] ?_ rfl rfl).2 <;> simp only [go_sem, List.getElem?_toArray, str_beq, reduceCtorEq, Nat.reduceEqDiff, Nat.reduceLT, Nat.reduceLeDiff, Nat.reduceAdd, Nat.reduceMul, Nat.reduceSub, Nat.reduceBEq, ↓reduceIte, bne_self_eq_false, Bool.and_false, Bool.false_and, Bool.true_or, Bool.false_or, Try.f14]
theorem uses_tab {m : Mm} {b : Nat} {E : List Ent} {S : List Nat} (h : TabM m b E S) (n : Int) : GivesW Try.prog 17 [.ptr b 0, iA n] m (iA (usesS E n : Nat)) m := by
  have hh := has_gives h n
  obtain ⟨c1, c2, mb, F, N, s1, s2, hb, hF, hE, hN, hI, hS, hnd⟩ := h
  have p1 := hF.plain1
  cases h0 : hasS E n with
  | false =>
    rw [h0] at hh
    have hr : usesS E n = 0 := by unfold usesS; rw [h0]; rfl
    rw [hr]
    refine givesW_of' Try.func17 rfl (by kernel_rfl) Try.ntmps17 rfl rfl fun Q hQ => ?_
    repeat (first
        | refine tr_seq_k fun _ _ => ?_
        | (refine tr_region ?_; simp only [go_sem, List.getElem?_toArray, str_beq, reduceCtorEq, Nat.reduceEqDiff, Nat.reduceLT, Nat.reduceLeDiff, Nat.reduceAdd, Nat.reduceMul, Nat.reduceSub, Nat.reduceBEq, ↓reduceIte, bne_self_eq_false, Bool.and_false, Bool.false_and, Bool.true_or, Bool.false_or])
        | (refine call_givesW (hh) ?_; (try dsimp only); (try simp only [go_sem, List.getElem?_toArray, str_beq, reduceCtorEq, Nat.reduceEqDiff, Nat.reduceLT, Nat.reduceLeDiff, Nat.reduceAdd, Nat.reduceMul, Nat.reduceSub, Nat.reduceBEq, ↓reduceIte, bne_self_eq_false, Bool.and_false, Bool.false_and, Bool.true_or, Bool.false_or]))
        | refine k_of (by assumption) ?_
        | refine tr_block ?_
        | refine tr_scope ?_
        | (refine tr_skip ?_; try simp only [ex_seq, ex_block])
        | (refine tr_label ?_; try simp only [ex_seq, ex_block])
        | (refine tr_exit ?_; try simp only [ex_seq_exit, ex_block_exit, Nat.reduceEqDiff, if_true, if_false, ex_seq, ex_block, reduceCtorEq, ↓reduceIte])
        | (refine tr_ret ?_; try simp only [ex_seq_ret, ex_block_ret]))
    refine tr_cond rfl (fun ht => ?_) (fun hf => ?_)
    · repeat (first
          | refine tr_seq_k fun _ _ => ?_
          | (refine tr_region ?_; simp only [go_sem, List.getElem?_toArray, str_beq, reduceCtorEq, Nat.reduceEqDiff, Nat.reduceLT, Nat.reduceLeDiff, Nat.reduceAdd, Nat.reduceMul, Nat.reduceSub, Nat.reduceBEq, ↓reduceIte, bne_self_eq_false, Bool.and_false, Bool.false_and, Bool.true_or, Bool.false_or])
          | refine k_of (by assumption) ?_
          | refine tr_block ?_
          | refine tr_scope ?_
          | (refine tr_skip ?_; try simp only [ex_seq, ex_block])
          | (refine tr_label ?_; try simp only [ex_seq, ex_block])
          | (refine tr_exit ?_; try simp only [ex_seq_exit, ex_block_exit, Nat.reduceEqDiff, if_true, if_false, ex_seq, ex_block, reduceCtorEq, ↓reduceIte])
          | (refine tr_ret ?_; try simp only [ex_seq_ret, ex_block_ret]))
      refine (hQ _ _ [iA 0] ?_ rfl rfl).2 <;> simp only [go_sem, List.getElem?_toArray, str_beq, reduceCtorEq, Nat.reduceEqDiff, Nat.reduceLT, Nat.reduceLeDiff, Nat.reduceAdd, Nat.reduceMul, Nat.reduceSub, Nat.reduceBEq, ↓reduceIte, bne_self_eq_false, Bool.and_false, Bool.false_and, Bool.true_or, Bool.false_or, Try.f17]
    · cases hf
  | true =>
    rw [h0] at hh
    obtain ⟨k, rfl, hk, hne⟩ := hasS_spec h0
    obtain ⟨h, L, rfl, _, hL, hEL, hkL, hg⟩ := row_get hE hk
    have hr : usesS E (k : Int) = (L[k]).2 := by
      unfold usesS
      rw [h0, if_pos rfl, Int.toNat_natCast, getD_at hk, hg]
    rw [hr]
    have i1 := en_idx (b := h) (n := E.length) hk
    have g1 := en_get1 hkL
    refine givesW_of' Try.func17 rfl (by kernel_rfl) Try.ntmps17 rfl rfl fun Q hQ => ?_
    repeat (first
        | refine tr_seq_k fun _ _ => ?_
        | (refine tr_region ?_; simp only [go_sem, List.getElem?_toArray, str_beq, reduceCtorEq, Nat.reduceEqDiff, Nat.reduceLT, Nat.reduceLeDiff, Nat.reduceAdd, Nat.reduceMul, Nat.reduceSub, Nat.reduceBEq, ↓reduceIte, bne_self_eq_false, Bool.and_false, Bool.false_and, Bool.true_or, Bool.false_or])
        | (refine call_givesW (hh) ?_; (try dsimp only); (try simp only [go_sem, List.getElem?_toArray, str_beq, reduceCtorEq, Nat.reduceEqDiff, Nat.reduceLT, Nat.reduceLeDiff, Nat.reduceAdd, Nat.reduceMul, Nat.reduceSub, Nat.reduceBEq, ↓reduceIte, bne_self_eq_false, Bool.and_false, Bool.false_and, Bool.true_or, Bool.false_or]))
        | refine k_of (by assumption) ?_
        | refine tr_block ?_
        | refine tr_scope ?_
        | (refine tr_skip ?_; try simp only [ex_seq, ex_block])
        | (refine tr_label ?_; try simp only [ex_seq, ex_block])
        | (refine tr_exit ?_; try simp only [ex_seq_exit, ex_block_exit, Nat.reduceEqDiff, if_true, if_false, ex_seq, ex_block, reduceCtorEq, ↓reduceIte])
        | (refine tr_ret ?_; try simp only [ex_seq_ret, ex_block_ret]))
    refine tr_cond rfl (fun ht => ?_) (fun hf => ?_)
    · cases ht
    · repeat (first
          | refine tr_seq_k fun _ _ => ?_
          | (refine tr_region ?_; simp only [go_sem, List.getElem?_toArray, str_beq, reduceCtorEq, Nat.reduceEqDiff, Nat.reduceLT, Nat.reduceLeDiff, Nat.reduceAdd, Nat.reduceMul, Nat.reduceSub, Nat.reduceBEq, ↓reduceIte, bne_self_eq_false, Bool.and_false, Bool.false_and, Bool.true_or, Bool.false_or, hb, p1, hL, i1, g1])
          | refine k_of (by assumption) ?_
          | refine tr_block ?_
          | refine tr_scope ?_
          | (refine tr_skip ?_; try simp only [ex_seq, ex_block])
          | (refine tr_label ?_; try simp only [ex_seq, ex_block])
          | (refine tr_exit ?_; try simp only [ex_seq_exit, ex_block_exit, Nat.reduceEqDiff, if_true, if_false, ex_seq, ex_block, reduceCtorEq, ↓reduceIte])
          | (refine tr_ret ?_; try simp only [ex_seq_ret, ex_block_ret]))
      refine (hQ _ _ [iA ((L[k]).2 : Nat)] ?_ rfl rfl).2 <;> simp only [go_sem, List.getElem?_toArray, str_beq, reduceCtorEq, Nat.reduceEqDiff, Nat.reduceLT, Nat.reduceLeDiff, Nat.reduceAdd, Nat.reduceMul, Nat.reduceSub, Nat.reduceBEq, ↓reduceIte, bne_self_eq_false, Bool.and_false, Bool.false_and, Bool.true_or, Bool.false_or, Try.f17]
theorem und_str : Try.prog.underlying 9 = some .string := Try.underlying9
theorem find_tab {m : Mm} {b : Nat} {E : List Ent} {S : List Nat} (h : TabM m b E S) (s : ByteArray) : GivesW Try.prog 15 [.ptr b 0, sA s] m (.tup [iA ((findS E s).getD 0 : Nat), bA (findS E s).isSome]) m := by
  obtain ⟨c1, c2, mb, F, N, s1, s2, hb, hF, hE, hN, hI, hS, hnd⟩ := h
  have p1 := hF.plain1
  cases h0 : findS E s with
  | none =>
    have hlk := nmI_none und_str ((hI.find_none s).2 h0) (nmI N).isEmpty
    refine givesW_of' Try.func15 rfl (by kernel_rfl) Try.ntmps15 rfl rfl fun Q hQ => ?_
    repeat (first
        | refine tr_seq_k fun _ _ => ?_
        | (refine tr_region ?_; simp only [go_sem, List.getElem?_toArray, str_beq, reduceCtorEq, Nat.reduceEqDiff, Nat.reduceLT, Nat.reduceLeDiff, Nat.reduceAdd, Nat.reduceMul, Nat.reduceSub, Nat.reduceBEq, ↓reduceIte, bne_self_eq_false, Bool.and_false, Bool.false_and, Bool.true_or, Bool.false_or])
        | refine k_of (by assumption) ?_
        | refine tr_block ?_
        | refine tr_scope ?_
        | (refine tr_skip ?_; try simp only [ex_seq, ex_block])
        | (refine tr_label ?_; try simp only [ex_seq, ex_block])
        | (refine tr_exit ?_; try simp only [ex_seq_exit, ex_block_exit, Nat.reduceEqDiff, if_true, if_false, ex_seq, ex_block, reduceCtorEq, ↓reduceIte])
        | (refine tr_ret ?_; try simp only [ex_seq_ret, ex_block_ret]))
    refine tr_cond rfl (fun ht => ?_) (fun hf => ?_)
    · cases ht
    · repeat (first
          | refine tr_seq_k fun _ _ => ?_
          | (refine tr_region ?_; simp only [go_sem, List.getElem?_toArray, str_beq, reduceCtorEq, Nat.reduceEqDiff, Nat.reduceLT, Nat.reduceLeDiff, Nat.reduceAdd, Nat.reduceMul, Nat.reduceSub, Nat.reduceBEq, ↓reduceIte, bne_self_eq_false, Bool.and_false, Bool.false_and, Bool.true_or, Bool.false_or, hb, p1, hN, hlk])
          | refine k_of (by assumption) ?_
          | refine tr_block ?_
          | refine tr_scope ?_
          | (refine tr_skip ?_; try simp only [ex_seq, ex_block])
          | (refine tr_label ?_; try simp only [ex_seq, ex_block])
          | (refine tr_exit ?_; try simp only [ex_seq_exit, ex_block_exit, Nat.reduceEqDiff, if_true, if_false, ex_seq, ex_block, reduceCtorEq, ↓reduceIte])
          | (refine tr_ret ?_; try simp only [ex_seq_ret, ex_block_ret]))
      refine (hQ _ _ [iA 0, bA false] ?_ rfl rfl).2 <;> simp only [go_sem, List.getElem?_toArray, str_beq, reduceCtorEq, Nat.reduceEqDiff, Nat.reduceLT, Nat.reduceLeDiff, Nat.reduceAdd, Nat.reduceMul, Nat.reduceSub, Nat.reduceBEq, ↓reduceIte, bne_self_eq_false, Bool.and_false, Bool.false_and, Bool.true_or, Bool.false_or, Try.f15]
  | some n =>
    obtain ⟨k, hlk, _⟩ := nmI_some und_str hI.nnd ((hI.find s n).2 h0) (nmI N).isEmpty
    refine givesW_of' Try.func15 rfl (by kernel_rfl) Try.ntmps15 rfl rfl fun Q hQ => ?_
    repeat (first
        | refine tr_seq_k fun _ _ => ?_
        | (refine tr_region ?_; simp only [go_sem, List.getElem?_toArray, str_beq, reduceCtorEq, Nat.reduceEqDiff, Nat.reduceLT, Nat.reduceLeDiff, Nat.reduceAdd, Nat.reduceMul, Nat.reduceSub, Nat.reduceBEq, ↓reduceIte, bne_self_eq_false, Bool.and_false, Bool.false_and, Bool.true_or, Bool.false_or])
        | refine k_of (by assumption) ?_
        | refine tr_block ?_
        | refine tr_scope ?_
        | (refine tr_skip ?_; try simp only [ex_seq, ex_block])
        | (refine tr_label ?_; try simp only [ex_seq, ex_block])
        | (refine tr_exit ?_; try simp only [ex_seq_exit, ex_block_exit, Nat.reduceEqDiff, if_true, if_false, ex_seq, ex_block, reduceCtorEq, ↓reduceIte])
        | (refine tr_ret ?_; try simp only [ex_seq_ret, ex_block_ret]))
    refine tr_cond rfl (fun ht => ?_) (fun hf => ?_)
    · cases ht
    · repeat (first
          | refine tr_seq_k fun _ _ => ?_
          | (refine tr_region ?_; simp only [go_sem, List.getElem?_toArray, str_beq, reduceCtorEq, Nat.reduceEqDiff, Nat.reduceLT, Nat.reduceLeDiff, Nat.reduceAdd, Nat.reduceMul, Nat.reduceSub, Nat.reduceBEq, ↓reduceIte, bne_self_eq_false, Bool.and_false, Bool.false_and, Bool.true_or, Bool.false_or, hb, p1, hN, hlk])
          | refine k_of (by assumption) ?_
          | refine tr_block ?_
          | refine tr_scope ?_
          | (refine tr_skip ?_; try simp only [ex_seq, ex_block])
          | (refine tr_label ?_; try simp only [ex_seq, ex_block])
          | (refine tr_exit ?_; try simp only [ex_seq_exit, ex_block_exit, Nat.reduceEqDiff, if_true, if_false, ex_seq, ex_block, reduceCtorEq, ↓reduceIte])
          | (refine tr_ret ?_; try simp only [ex_seq_ret, ex_block_ret]))
      refine (hQ _ _ [iA (n : Nat), bA true] ?_ rfl rfl).2 <;> simp only [go_sem, List.getElem?_toArray, str_beq, reduceCtorEq, Nat.reduceEqDiff, Nat.reduceLT, Nat.reduceLeDiff, Nat.reduceAdd, Nat.reduceMul, Nat.reduceSub, Nat.reduceBEq, ↓reduceIte, bne_self_eq_false, Bool.and_false, Bool.false_and, Bool.true_or, Bool.false_or, Try.f15]
end Go.Proofs.Ytlhlcfijpdknfaa

/-
  Chapter 2: a map's values, in whatever order; sorted.
-/
set_option linter.unusedSimpArgs false
set_option linter.unusedVariables false
namespace Go.Proofs.Ytlhlcfijpdknfaa
open Go.RowKit Go.Maps Go.Sort Go.Shelf Go.Vs Go.Vs.Ab Go.Vs.Hp Go.Vs.Tb
open Go.WideElems (Fit rd rg)
set_option maxRecDepth 100000
set_option maxHeartbeats 4000000

abbrev lk (s : ByteArray) : Lit := .string s.data.toList
def itN (N : List (ByteArray × Nat)) : List (Lit × DataW Unit) := N.map fun p => (lk p.1, .lit (.int .i64 (p.2 : Int)))
def DN (N : List (ByteArray × Nat)) : DataW Unit := .map ((itN N).foldr DataW.insert [])
theorem lk_inj {a b : ByteArray} (h : lk a = lk b) : a = b := by
  injection h with h
  cases a; cases b
  congr 1
  exact Array.ext' h
theorem wf_nat {n : Nat} (h : n ≤ 1000000) : (Lit.int .i64 (n : Int)).wf = true := by
  have h1 : IntKind.i64.min = -9223372036854775808 := rfl
  have h2 : IntKind.i64.max = 9223372036854775807 := rfl
  simp only [Lit.wf, Bool.and_eq_true, decide_eq_true_eq]
  omega

theorem own_nm {w : World} {b : Nat} {arr : Array MapEntry} {clock : Nat} {N : List (ByteArray × Nat)} (hb : w.heap[b]? = some (.map arr clock)) (hm : MapIs (nmI N) arr clock) (hnd : (N.map Prod.fst).Nodup) (hs : ∀ p ∈ N, p.1.size ≤ maxLen) (hn : ∀ p ∈ N, p.2 ≤ 1000000) (hl : N.length ≤ maxLen) :
    w.ownsMap Try.prog 9 (plainElem Try.prog 3) b N.length (DN N) := by
  have hsz : arr.size = N.length := by rw [hm.len, nmI_len]
  have hes : arr.toList.map (fun e => (e.key, e.val)) = N.map fun p => (Value.string p.1, Value.int .i64 (p.2 : Nat)) := by
    rw [hm.es]
    simp [nmI, encE]
  have hrd : ∀ p ∈ N, ∀ born, rd Try.prog 9 (plainElem (H := Unit) Try.prog 3) ⟨.string p.1, .int .i64 (p.2 : Nat), born⟩ = some (lk p.1, .lit (.int .i64 (p.2 : Int))) := fun p hp born =>
    Go.WideElems.rd_mk (WideMaps.keyOf_string_mk und_str (hs p hp)) (plainElem_int Try.underlying3 (wf_nat (hn p hp)))
  have hx : ∀ x ∈ arr.toList, ∃ p ∈ N, x = ⟨.string p.1, .int .i64 (p.2 : Nat), x.born⟩ := fun x hx => by
    have : (x.key, x.val) ∈ arr.toList.map (fun e => (e.key, e.val)) := List.mem_map.2 ⟨x, hx, rfl⟩
    rw [hes] at this
    obtain ⟨p, hp, e⟩ := List.mem_map.1 this
    injection e with e1 e2
    exact ⟨p, hp, by cases x; simp only at e1 e2; subst e1 e2; rfl⟩
  refine ⟨arr, clock, hb, ⟨by rw [hsz]; exact hl, ⟨hm.born, ?_, ?_⟩, fun x h => ?_⟩, by rw [hsz]; exact Nat.le_refl _, ?_⟩
  · rw [List.nodup_iff_pairwise_ne, List.pairwise_map]
    exact hm.uniq
  · have : arr.toList.map (·.key) = (arr.toList.map (fun e => (e.key, e.val))).map Prod.fst := by rw [List.map_map]; rfl
    rw [this, hes, List.map_map]
    have h2 : (Prod.fst ∘ fun p : ByteArray × Nat => (Value.string p.1, Value.int .i64 (p.2 : Nat))) = Value.string ∘ Prod.fst := rfl
    rw [h2, ← List.map_map, List.nodup_iff_pairwise_ne, List.pairwise_map]
    rw [List.nodup_iff_pairwise_ne] at hnd
    exact hnd.imp fun h e => h (by injection e)
  · obtain ⟨p, hp, e⟩ := hx x h
    rw [e]
    exact ⟨_, hrd p hp _⟩
  · unfold DN itN
    congr 2
    have e1 : ∀ x : MapEntry, rg Try.prog 9 (plainElem (H := Unit) Try.prog 3) x = (fun kv : Value × Value => rg Try.prog 9 (plainElem (H := Unit) Try.prog 3) ⟨kv.1, kv.2, 0⟩) (x.key, x.val) := fun x => rfl
    have e2 : arr.toList.map (rg Try.prog 9 (plainElem (H := Unit) Try.prog 3)) = (arr.toList.map (fun e => (e.key, e.val))).map (fun kv : Value × Value => rg Try.prog 9 (plainElem (H := Unit) Try.prog 3) ⟨kv.1, kv.2, 0⟩) := by
      rw [List.map_map]
      rfl
    rw [e2, hes, List.map_map]
    refine (List.map_congr_left fun p hp => ?_).symm
    exact Go.WideElems.rg_of (hrd p hp 0)

theorem mem_DN {N : List (ByteArray × Nat)} {q : Lit × DataW Unit} : q ∈ (itN N).foldr DataW.insert [] ↔ ∃ p ∈ N, q = (lk p.1, .lit (.int .i64 (p.2 : Int))) := by
  rw [(WideShapes.sorted_perm (itN N)).mem_iff]
  unfold itN
  rw [List.mem_map]
  constructor
  · rintro ⟨p, h, rfl⟩; exact ⟨p, h, rfl⟩
  · rintro ⟨p, h, rfl⟩; exact ⟨p, h, rfl⟩
theorem size_DN (N : List (ByteArray × Nat)) : Maps.size (DN N) = N.length := by
  show ((itN N).foldr DataW.insert []).length = _
  rw [(WideShapes.sorted_perm (itN N)).length_eq]
  simp [itN]
theorem has_DN {N : List (ByteArray × Nat)} {p : ByteArray × Nat} (h : p ∈ N) : Maps.has (DN N) (lk p.1) = true :=
  List.any_eq_true.2 ⟨(lk p.1, .lit (.int .i64 (p.2 : Int))), mem_DN.2 ⟨p, h, rfl⟩, by simp [Lit.sameKey]⟩

/-- What has come so far. -/
def CollN (N : List (ByteArray × Nat)) (left : Lit → Bool) (ps : List (ByteArray × Nat)) : Prop := ps.Nodup ∧ ∀ p, p ∈ ps ↔ (p ∈ N ∧ left (lk p.1) = false)
theorem CollN.start (N : List (ByteArray × Nat)) : CollN N (Maps.has (DN N)) [] := ⟨List.nodup_nil, fun p => ⟨fun h => (by cases h), fun h => (by have h2 := h.2; rw [has_DN h.1] at h2; cases h2)⟩⟩
theorem CollN.step {N : List (ByteArray × Nat)} {left : Lit → Bool} {ps : List (ByteArray × Nat)} (h : CollN N left ps) (hnd : (N.map Prod.fst).Nodup) {p : ByteArray × Nat} (hp : p ∈ N) (hl : left (lk p.1) = true) :
    CollN N (fun z => left z && !z.sameKey (lk p.1)) (ps ++ [p]) := by
  have hkey : ∀ q ∈ N, q.1 = p.1 → q = p := fun q hq e => by
    rw [List.nodup_iff_pairwise_ne, List.pairwise_map, List.pairwise_iff_getElem] at hnd
    obtain ⟨i, hi, rfl⟩ := List.mem_iff_getElem.1 hq
    obtain ⟨j, hj, rfl⟩ := List.mem_iff_getElem.1 hp
    rcases Nat.lt_trichotomy i j with hij | hij | hij
    · exact absurd e (hnd i j hi hj hij)
    · subst hij; rfl
    · exact absurd e.symm (hnd j i hj hi hij)
  have hno : p ∉ ps := fun hin => by
    have := ((h.2 p).1 hin).2
    rw [hl] at this
    cases this
  refine ⟨?_, fun q => ?_⟩
  · rw [List.nodup_append]
    refine ⟨h.1, by simp, fun a ha b hb => ?_⟩
    rw [List.mem_singleton] at hb
    subst hb
    rintro rfl
    exact hno ha
  · rw [List.mem_append, List.mem_singleton, h.2]
    have hs : (lk q.1).sameKey (lk p.1) = true ↔ q.1 = p.1 := by
      constructor
      · intro e
        have : q.1.data.toList = p.1.data.toList := by simpa [Lit.sameKey] using e
        exact lk_inj (congrArg Lit.string this)
      · intro e
        rw [e]
        simp [Lit.sameKey]
    constructor
    · rintro (⟨h1, h2⟩ | rfl)
      · refine ⟨h1, ?_⟩
        show (left (lk q.1) && !(lk q.1).sameKey (lk p.1)) = false
        rw [h2]
        rfl
      · refine ⟨hp, ?_⟩
        show (left (lk q.1) && !(lk q.1).sameKey (lk q.1)) = false
        rw [hs.2 rfl, Bool.not_true, Bool.and_false]
    · rintro ⟨h1, h2⟩
      have h2 : (left (lk q.1) && !(lk q.1).sameKey (lk p.1)) = false := h2
      rw [Bool.and_eq_false_iff] at h2
      rcases h2 with h2 | h2
      · exact Or.inl ⟨h1, h2⟩
      · exact Or.inr (hkey q h1 (hs.1 (by simpa using h2)))
theorem CollN.perm {N : List (ByteArray × Nat)} {left : Lit → Bool} {ps : List (ByteArray × Nat)} (h : CollN N left ps) (hnd : (N.map Prod.fst).Nodup) (hl : ∀ kl, left kl = false) : ps.Perm N := by
  have h2 : N.Nodup := by
    rw [List.nodup_iff_pairwise_ne] at hnd ⊢
    rw [List.pairwise_map] at hnd
    exact hnd.imp fun h e => h (by rw [e])
  rw [List.perm_ext_iff_of_nodup h.1 h2]
  intro p
  rw [h.2 p, hl]
  simp
/-- What an entry that comes is. -/
theorem come_DN {N : List (ByteArray × Nat)} (hnd : (N.map Prod.fst).Nodup) {s : ByteArray} {c : Int} (h : ∀ zd, (DN N).atKey (lk s) zd = .lit (.int .i64 c)) : ∃ n : Nat, (s, n) ∈ N ∧ c = (n : Int) := by
  have h1 := Maps.has_true_of_atKey h
  obtain ⟨q, hq, hk⟩ := List.any_eq_true.1 h1
  obtain ⟨p, hp, rfl⟩ := mem_DN.1 hq
  have hk : p.1 = s := by
    have : p.1.data.toList = s.data.toList := by simpa [Lit.sameKey] using hk
    exact lk_inj (congrArg Lit.string this)
  subst hk
  have hap : ((itN N).foldr DataW.insert []).Pairwise (fun p q => p.1 ≠ q.1) := by
    refine ((WideShapes.sorted_perm (itN N)).pairwise_iff (fun h e => h e.symm)).2 ?_
    unfold itN
    rw [List.pairwise_map]
    rw [List.nodup_iff_pairwise_ne, List.pairwise_map] at hnd
    exact hnd.imp fun h e => h (lk_inj e)
  have h3 := WideAt.atKey_mem (DataW.nil) (by trivial) hap (mem_DN.2 ⟨p, hp, rfl⟩)
  have h4 := h .nil
  unfold DN at h4
  rw [h3] at h4
  injection h4 with h4
  injection h4 with _ h4
  exact ⟨p.2, hp, h4.symm⟩

/-- **maps.Values(m)'s iterator**: whatever the rounds do, so they go on and leave maps and iterators alone: the values come, each once, in some order. -/
theorem values1_in (F : Fence) (n : Nat) (h8 : F.fn 41) (hro : F.round = none) (hn : 1 ≤ n) (l Bm b : Nat) (N : List (ByteArray × Nat)) (hnd : (N.map Prod.fst).Nodup) (J : List Int → World → Prop)
    (hY : ∀ pre x W, J pre W → pre.length < N.length → YieldAt F (n - 1) Try.prog l #[encZ x] W fun e W' => e = .returned (.bool true) ∧ J (pre ++ [x]) W' ∧ KeepsWalks W W')
    (W : World) (hJ : AbidesFrom W.heap.size J) (hm : W.cell? ⟨Bm, 0, none⟩ = some (.map (some b))) (hown : W.ownsMap Try.prog 9 (plainElem Try.prog 3) b N.length (DN N)) (h0 : J [] W) :
    CallsIn F n Try.prog 41 #[.func (.yield l) #[] #[], .pointer (some ⟨Bm, 0, none⟩)] W fun e W' => (∃ v, e = .returned v) ∧ ∃ xs, xs.Perm (N.map fun p => (p.2 : Int)) ∧ J xs W' := by
  refine callsIn_of_wp Try.func41 rfl h8 ?_ hro
  simp only [Try.ntmps41, List.size_toArray, List.length_cons, List.length_nil, Nat.reduceAdd, Nat.reduceSub, Array.replicate_succ, Array.replicate_zero, List.push_toArray, List.append_toArray, List.nil_append, List.cons_append]
  gi_wp2_with (first
    | (gi_at_range; refine wpListIn_range_own _ rfl _ 56 rfl 9 3 (string_keyed und_str) Try.underlying56 _ b N.length _ rfl hown ?_; intro w0 hrg0 hg0 hs0)
    | gi_in)
  go_frame
  gi_loopw [4] (fun _ wr => ∃ (left : Lit → Bool) (cnt : Nat) (ps : List (ByteArray × Nat)), wr.ranges Try.prog 9 (plainElem Try.prog 3) b W.heap.size N.length (DN N) left cnt ∧ ps.length + cnt ≤ N.length ∧ CollN N left ps ∧ J (ps.map fun p => (p.2 : Int)) wr)
    (fun _ wr => wr.rangeLeft b W.heap.size)
  case atStart =>
    exact ⟨_, _, [], hrg0, by simp [size_DN], CollN.start N, hJ [] W w0 none h0 hg0 (fun r e => by cases e)⟩
  case round =>
    obtain ⟨left, cnt, ps, hrg, hcs, hC, hJs⟩ := hrel
    gi_wp2_with (first
      | (gi_at_next; refine wpListIn_next_ranges _ rfl _ rfl 9 (string_keyed und_str) (plainElem Try.prog 3) encStr encZ (fun key kl hk => by obtain ⟨x, hx, _⟩ := Maps.keyOf_str und_str hk; exact ⟨x, hx⟩) (fun v y hv => by obtain ⟨c, rfl, _⟩ := plainElem_int_inv Try.underlying3 hv; exact ⟨c, rfl⟩) b W.heap.size N.length _ _ _ rfl hrg ?_ ?_)
      | gi_in)
    · intro hc0 hl0
      gi_wp2
      go_end0
      exact ⟨⟨_, rfl⟩, _, (hC.perm hnd hl0).map _, hJs⟩
    · intro x c kl yd yp w2 cnt2 hkey hlk hv hat hrg2 hlt hg2 hs2 hen
      obtain ⟨x', ex, rfl, _⟩ := Maps.keyOf_str und_str hkey
      obtain rfl : x = x' := encStr_inj ex
      obtain ⟨c', ec, ez, _⟩ := plainElem_int_inv Try.underlying3 hv
      obtain rfl : c = c' := by injection ec
      obtain rfl : yd = .lit (.int .i64 c) := (Prod.mk.inj ez).1
      obtain ⟨k, hk, rfl⟩ := come_DN (s := ⟨x.toArray⟩) hnd hat
      have hJ2 := hJ _ wr w2 (some W.heap.size) hJs hg2 (fun r e => by cases e; exact ⟨Nat.le_refl _, hrg.iter_walk⟩)
      obtain ⟨fn, tmps, assign, body, hy, hR⟩ := hY (ps.map fun p => (p.2 : Int)) (k : Int) w2 hJ2 (by simp; omega)
      clear hs2
      gi_wp2
      refine hR.mono ?_
      have hC2 := hC.step hnd hk hlk
      rintro e W3 ⟨rfl, hJ3, hk3⟩
      gi_wp2
      have hrg3 := hrg2.of_walks hk3
      go_roundw
      case rel => exact ⟨_, cnt2, ps ++ [(⟨x.toArray⟩, k)], hrg3, by simp; omega, hC2, by simpa using hJ3⟩
      case measure => rw [hrg3.left_eq, hrg.left_eq]; exact hlt

/-- **maps.Values(m)**: the map is boxed; the function value captures the box. -/
theorem values_in (F : Fence) (n : Nat) (hf : F.fn 35) (hro : F.round = none) (mb : Option Nat) (w : World) :
    CallsIn F n Try.prog 35 #[.map mb] w fun e w' => e = .returned (.func (.func 41) #[] #[.pointer (some ⟨w.heap.size, 0, none⟩)]) ∧ w' = w.alloc (.cells #[.map mb] 56) := by
  refine callsIn_of_wp Try.func35 rfl hf ?_ hro
  simp only [Try.ntmps35, List.size_toArray, List.length_cons, List.length_nil, Nat.reduceAdd, Nat.reduceSub, Array.replicate_succ, Array.replicate_zero, List.push_toArray, List.append_toArray, List.nil_append, List.cons_append]
  gi_wp2
  go_ret
  exact ⟨rfl, rfl⟩

/-- maps.Values(m) hands back an iterator over m's values: in the world behind the call. -/
theorem values_gives (F : Fence) (n : Nat) (h8 : F.fn 41) (hro : F.round = none) (hn : 1 ≤ n) (Bm b : Nat) (N : List (ByteArray × Nat)) (hnd : (N.map Prod.fst).Nodup) (w : World) (hBm : Bm < w.heap.size)
    (hm : w.cell? ⟨Bm, 0, none⟩ = some (.map (some b))) (hown : w.ownsMap Try.prog 9 (plainElem Try.prog 3) b N.length (DN N)) :
    SeqGives F n Try.prog 41 #[.pointer (some ⟨Bm, 0, none⟩)] encZ (fun xs => xs.Perm (N.map fun p => (p.2 : Int))) N.length w := fun l J W hW hJ hY h0 => by
  have hown' : W.ownsMap Try.prog 9 (plainElem Try.prog 3) b N.length (DN N) := by
    have hbl := hown.lt
    obtain ⟨es, clock, hb, Ft, hs, hD⟩ := hown
    exact ⟨es, clock, (hW.block b hbl).trans hb, Ft, hs, hD⟩
  exact values1_in F n h8 hro hn l Bm b N hnd J hY W hJ ((hW.cell (p := ⟨Bm, 0, none⟩) hBm).trans hm) hown' h0
end Go.Proofs.Ytlhlcfijpdknfaa

/-
  Chapter 2: Each's iterator, for a loop body that goes on.
-/
set_option linter.unusedSimpArgs false
set_option linter.unusedVariables false
namespace Go.Proofs.Ytlhlcfijpdknfaa
open Go.RowKit Go.Maps Go.Sort Go.Shelf Go.Vs Go.Vs.Ab Go.Vs.Hp Go.Vs.Tb
set_option maxRecDepth 100000
set_option maxHeartbeats 4000000

/-- slices.Sort's two contracts at this program. -/
theorem sortsA (m : Nat) : AnyZI.SortsIn Try.prog Try.sortedA_ren Fence.wide m :=
  ⟨fun blk off cap ss W hH hblk hsz => callsIn_wide.2 (AnyM.slices_Sort_int Try.sortA blk off cap ss W hH hblk hsz),
   fun p cap W => callsIn_wide.2 (AnyM.slices_Sort_int_none Try.sortA p cap W)⟩

/-- What a table is in the world, as its iterator reads it: the box Bt leads to it; its entries lie at be, oe; its map is bm. -/
structure TW (w : World) (Bt β bm : Nat) (a : Option Addr) (cap : Nat) (E : List Ent) (N : List (ByteArray × Nat)) : Prop where
  box : w.cell? ⟨Bt, 0, none⟩ = some (.pointer (some ⟨β, 0, none⟩))
  bl : Bt < w.heap.size
  βl : β < w.heap.size
  sl : w.cell? ⟨β, 1, none⟩ = some (.slice a E.length cap)
  mp : w.cell? ⟨β, 2, none⟩ = some (.map (some bm))
  en : ∀ (i : Nat) (hi : i < E.length), ∃ be oe, a = some ⟨be, oe, none⟩ ∧ be < w.heap.size ∧ w.cell? ⟨be, oe + i * 2, none⟩ = some (.string E[i].1)
  own : w.ownsMap Try.prog 9 (plainElem Try.prog 3) bm N.length (DN N)
  nd : (N.map Prod.fst).Nodup
  perm : (N.map Prod.snd).Perm (lives E)
  small : N.length ≤ 1000
  live : ∀ i ∈ lives E, i < E.length
theorem TW.below {w w' : World} {Bt β bm : Nat} {a : Option Addr} {cap : Nat} {E : List Ent} {N : List (ByteArray × Nat)} (h : TW w Bt β bm a cap E N) (hb : Below w.heap.size w w') : TW w' Bt β bm a cap E N := by
  have hbl := h.own.lt
  refine ⟨(hb.cell (p := ⟨Bt, 0, none⟩) h.bl).trans h.box, Nat.lt_of_lt_of_le h.bl hb.size, Nat.lt_of_lt_of_le h.βl hb.size, (hb.cell (p := ⟨β, 1, none⟩) h.βl).trans h.sl, (hb.cell (p := ⟨β, 2, none⟩) h.βl).trans h.mp, fun i hi => ?_, ?_, h.nd, h.perm, h.small, h.live⟩
  · obtain ⟨be, oe, h1, h2, h3⟩ := h.en i hi
    exact ⟨be, oe, h1, Nat.lt_of_lt_of_le h2 hb.size, (hb.cell (p := ⟨be, oe + i * 2, none⟩) h2).trans h3⟩
  · obtain ⟨es, clock, hb', Ft, hs, hD⟩ := h.own
    exact ⟨es, clock, (hb.block bm hbl).trans hb', Ft, hs, hD⟩

/-- The numbers that have a text, sorted, as the sort leaves them. -/
theorem sorted_lives {E : List Ent} {ss : List Int} (h : ss.Perm ((lives E).map fun i : Nat => (i : Int))) : ss.mergeSort (fun x y => decide (x ≤ y)) = (lives E).map fun i : Nat => (i : Int) := by
  refine List.Perm.eq_of_pairwise (le := fun x y => x ≤ y) ?_ ?_ ?_ ?_
  · intro a b _ _ h1 h2; exact Int.le_antisymm h1 h2
  · have := List.pairwise_mergeSort (le := fun x y : Int => decide (x ≤ y)) (fun a b c h1 h2 => by simp only [decide_eq_true_eq] at *; omega) (fun a b => by simp only [Bool.or_eq_true, decide_eq_true_eq]; omega) ss
    exact this.imp fun h => of_decide_eq_true h
  · rw [List.pairwise_map]
    exact (lives_sorted E).imp fun h => by omega
  · exact (List.mergeSort_perm ss _).trans h

def kI (E : List Ent) (i : Nat) : Nat := (lives E).getD i 0
def tI (E : List Ent) (i : Nat) : ByteArray := (E.getD (kI E i) (emp, 0)).1
abbrev encI (E : List Ent) (i : Nat) : Array Value := #[.int .i64 (kI E i : Int), .string (tI E i)]

/-- **Each's iterator**, for rounds that go on. J: what the caller keeps between rounds; some (g, o): with the block g, which holds o, unturned. -/
theorem each1_in (n : Nat) (hn : 8 ≤ n) (l Bt β bm : Nat) (a : Option Addr) (cap : Nat) (E : List Ent) (N : List (ByteArray × Nat)) (w W : World) (hT0 : TW w Bt β bm a cap E N) (hW : Below w.heap.size w W) (J : Option (Nat × Obj) → Nat → World → Prop)
    (hB : ∀ W', Below W.heap.size W W' → J none 0 W')
    (hS : ∀ W' g o, Below W.heap.size W W' → W.heap.size ≤ g → W'.heap[g]? = some o → o.isCells = true → J (some (g, o)) 0 W')
    (hT : ∀ pg i W', J pg i W' → Below w.heap.size w W')
    (hG : ∀ g o i W', J (some (g, o)) i W' → W'.heap[g]? = some o)
    (hY : ∀ pg i W1, i < (lives E).length → J pg i W1 → YieldAt Fence.wide (n - 1) Try.prog l (encI E i) W1 fun e W' => e = .returned (.bool true) ∧ J pg (i + 1) W') :
    CallsIn Fence.wide n Try.prog 33 #[.func (.yield l) #[] #[], .pointer (some ⟨Bt, 0, none⟩)] W fun e W' => (∃ v, e = .returned v) ∧ ∃ pg, J pg (lives E).length W' := by
  have hTW := hT0.below hW
  have h1 : 1 ≤ n := by omega
  have hro : Fence.wide.round = none := rfl
  have hf : ∀ f, Fence.wide.fn f := fun _ => trivial
  have hmax : N.length ≤ maxLen := Nat.le_trans hTW.small (by decide)
  have hbytes : N.length * 8 ≤ 140737488355328 := by have := hTW.small; omega
  have hseq : SeqGives Fence.wide (n - 1 - 1 - 1 - 1) Try.prog 41 #[.pointer (some ⟨W.heap.size, 0, none⟩)] encZ (fun xs => xs.Perm (N.map fun p => (p.2 : Int))) N.length (W.alloc (.cells #[.map (some bm)] 56)) := by
    have hbl := hTW.own.lt
    refine values_gives Fence.wide _ trivial rfl (by omega) W.heap.size bm N hTW.nd _ (by simp) (by simp) ?_
    obtain ⟨es, clock, hb, Ft, hs, hD⟩ := hTW.own
    exact ⟨es, clock, (Below.heap_alloc _ _ bm hbl).trans hb, Ft, hs, hD⟩
  have cK : ∀ mb W', CallsIn Fence.wide (n - 1) Try.prog 35 #[.map mb] W' fun e w' => e = .returned (.func (.func 41) #[] #[.pointer (some ⟨W'.heap.size, 0, none⟩)]) ∧ w' = W'.alloc (.cells #[.map mb] 56) := fun mb W' => values_in Fence.wide (n - 1) trivial rfl mb W'
  have cS := AnyZI.sorted_in Try.sortedA Fence.wide (n - 1) trivial trivial trivial trivial rfl (by omega) (sortsA _) (enters_of Try.func40 (by kernel_rfl) rfl) 41 #[.pointer (some ⟨W.heap.size, 0, none⟩)] trivial (enters_of Try.func41 (by kernel_rfl) rfl) _ _ hmax hbytes _ hseq
  change CallsIn _ _ Try.prog 34 _ _ _ at cS
  have hbox := hTW.box
  have hsl := hTW.sl
  have hmp := hTW.mp
  refine callsIn_of_wp Try.func33 rfl trivial ?_ hro
  simp only [Try.ntmps33, List.size_toArray, List.length_cons, List.length_nil, Nat.reduceAdd, Nat.reduceSub, Array.replicate_succ, Array.replicate_zero, List.push_toArray, List.append_toArray, List.nil_append, List.cons_append]
  gi_wp2_with (first
    | (gi_at_call 35; refine (cK _ _).mono ?_; rintro e w' ⟨rfl, rfl⟩)
    | (gi_at_call 34; refine cS.mono ?_; rintro e W2 ⟨v, ss, rfl, hSp, hrow, hnil, hb2⟩; clear hnil; obtain ⟨hlen, hrow⟩ := hrow; rcases hrow with ⟨rfl, hz⟩ | ⟨g, cp, cur, rfl, hgb, hgc, r1, r2, r3, r4⟩)
    | gi_in)
  · have hss : ss = [] := List.eq_nil_of_length_eq_zero hz
    subst hss
    have hlen0 : (lives E).length = 0 := by
      have h2 := hTW.perm.map (fun i : Nat => (i : Int))
      rw [List.map_map] at h2
      have := (hSp.trans h2).length_eq
      rw [List.length_map] at this
      exact this.symm
    have hW2 : Below W.heap.size W W2 := ((Below.refl _ W).alloc (Nat.le_refl _) _).trans (hb2.mono (by simp))
    have hJ0 := hB W2 hW2
    clear hSp hseq cS
    gi_loopw [14] (fun v wr => v = .int .i64 0 ∧ J none 0 wr) (fun _ _ => 0)
    case atStart => exact ⟨rfl, hJ0⟩
    case round =>
      obtain ⟨rfl, hJ⟩ := hrel
      gi_wp2
      go_end0
      exact ⟨⟨_, rfl⟩, none, by rw [hlen0]; exact hJ⟩
  · have hperm : ss.Perm ((lives E).map fun i : Nat => (i : Int)) := by
      have h2 := hTW.perm.map (fun i : Nat => (i : Int))
      rw [List.map_map] at h2
      exact hSp.trans h2
    have hss := sorted_lives hperm
    have hlen2 : ss.length = (lives E).length := by rw [hperm.length_eq, List.length_map]
    rw [hss] at r4
    have hW2 : Below W.heap.size W W2 := ((Below.refl _ W).alloc (Nat.le_refl _) _).trans (hb2.mono (by simp))
    have hg0 : W.heap.size ≤ g := by simp at hgb; omega
    have hJ0 := hS W2 g _ hW2 hg0 hgc rfl
    have hcell : ∀ i (hi : i < (lives E).length), cur[i]? = some (.int .i64 (((lives E).getD i 0 : Nat) : Int)) := fun i hi => by
      have : (cur.toList.take (ss.length * 1))[i]? = some (.int .i64 (((lives E).getD i 0 : Nat) : Int)) := by
        rw [r4]
        simp [List.getD_eq_getElem?_getD, hi]
      rw [List.getElem?_take, if_pos (by omega)] at this
      simpa using this
    clear hSp hlen hseq cS r4 hss hperm
    rw [hlen2]
    gi_loopw [14] (fun v wr => ∃ i : Nat, i ≤ (lives E).length ∧ v = .int .i64 i ∧ J (some (g, .cells cur 3 (0, 0))) i wr) (fun v _ => match v with | .int _ k => (lives E).length - k.toNat | _ => 0)
    case atStart => exact ⟨0, Nat.zero_le _, rfl, hJ0⟩
    case round =>
      obtain ⟨i, hi, rfl, hJ⟩ := hrel
      have hgw := hG _ _ _ _ hJ
      have hTr := hT0.below (hT _ _ _ hJ)
      by_cases hlt : i < (lives E).length
      · have cG : wr.cell? ⟨g, i, none⟩ = some (.int .i64 (((lives E).getD i 0 : Nat) : Int)) := cell_of_heap hgw (hcell i hlt)
        have hbox2 := hTr.box
        have hsl2 := hTr.sl
        have hk : (lives E).getD i 0 < E.length := hTW.live _ (by rw [List.getD_eq_getElem?_getD, List.getElem?_eq_getElem hlt]; exact List.getElem_mem hlt)
        obtain ⟨be, oe, rfl, hbe, cE⟩ := hTr.en _ hk
        have hE : E.getD ((lives E).getD i 0) (emp, 0) = E[(lives E).getD i 0] := getD_at hk
        have hll : (lives E).length ≤ 1000 := by
          rw [← hTW.perm.length_eq, List.length_map]
          exact hTW.small
        have hw64 : wrap64 ((i : Int) + 1) = (i : Int) + 1 := by
          unfold wrap64
          omega
        have hy0 := hY _ i wr hlt hJ
        unfold encI tI kI at hy0
        rw [hE] at hy0
        generalize hsx : (E[(lives E).getD i 0]).1 = sx at *
        generalize hkk : (lives E).getD i 0 = k at *
        obtain ⟨fn, tmps, assign, body, hy, hR⟩ := hy0
        gi_wp2
        refine hR.mono ?_
        rintro e W3 ⟨rfl, hJ3⟩
        clear hY hy hR hcell hgw hTr cG cE hbox2 hsl2 hE hsx hk hkk hB hS hT hG cK hbox hsl hmp hJ hw64
        gi_wp2
        go_roundw
        case rel => exact ⟨i + 1, hlt, rfl, hJ3⟩
        case measure =>
          show (lives E).length - ((i : Int) + 1).toNat < (lives E).length - ((i : Int)).toNat
          omega
      · obtain rfl : i = (lives E).length := by omega
        gi_wp2
        go_end0
        exact ⟨⟨_, rfl⟩, _, hJ⟩
end Go.Proofs.Ytlhlcfijpdknfaa

/-
  Chapter 2: a loop over Each, whose body goes on: entries.
-/
set_option linter.unusedSimpArgs false
set_option linter.unusedVariables false
namespace Go.Proofs.Ytlhlcfijpdknfaa
open Go.RowKit Go.Maps Go.Sort Go.Shelf Go.Vs Go.Vs.Ab Go.Vs.Hp Go.Vs.Tb
set_option maxRecDepth 100000
set_option maxHeartbeats 4000000

/-- A range over a function whose rounds all go on; the iterator may keep a block of its own. -/
theorem wpIn_rangeP {P : Program} {n : Nat} {g : Operand} {ps : Array Tmp} {assign body : Code} {Q : Exit → Act → World → Prop} {a : Act} {w : World}
    (h1 : 1 ≤ n) {gf : Nat} {lb : Array Value} (hg : a.eval g = .func (.func gf) #[] lb) (eg : ∀ args w, (callFunc gf args).run P w = .ok (.enter gf args) w)
    {encs : Nat → Array Value} (len : Nat) (hps : ∀ i, (encs i).size = ps.size) (I : Option (Nat × Obj) → Nat → World → Prop)
    (hI : ∀ pg i W l o o', I pg i W → w.heap.size ≤ l → W.heap[l]? = some o → o.isCells = false → I pg i (W.putObj l o'))
    (hI0 : ∀ W, Below w.heap.size w W → I none 0 W)
    (hIS : ∀ W g o, Below w.heap.size w W → w.heap.size ≤ g → W.heap[g]? = some o → o.isCells = true → I (some (g, o)) 0 W)
    (hseq : ∀ (l : Nat) (J : Option (Nat × Obj) → Nat → World → Prop) (W : World), Below w.heap.size w W → (∀ W', Below W.heap.size W W' → J none 0 W') →
      (∀ W' g o, Below W.heap.size W W' → W.heap.size ≤ g → W'.heap[g]? = some o → o.isCells = true → J (some (g, o)) 0 W') → (∀ pg i W', J pg i W' → I pg i W') →
      (∀ pg i W1, i < len → J pg i W1 → YieldAt Fence.wide (n - 1 - 1) P l (encs i) W1 fun e W' => e = .returned (.bool true) ∧ J pg (i + 1) W') →
      CallsIn Fence.wide (n - 1) P gf (#[.func (.yield l) #[] #[]] ++ lb) W fun e W' => (∃ v, e = .returned v) ∧ ∃ pg, J pg len W')
    (a₁ : Nat → Act)
    (hassign : ∀ (l i : Nat) (W : World) (K : Act → World → Prop), K (a₁ i) W →
      assign.wpIn (Fence.wide.inRound l) (n - 1 - 1) P (Exit.then K (fun _ _ _ => False)) { tmps := (ps.zip (encs i)).foldl (fun t (p, v) => t.setIfInBounds p v) a.tmps, defers := [] } W)
    (hbody : ∀ (l : Nat) (pg : Option (Nat × Obj)) (i : Nat) (W : World), i < len → I pg i W → body.wpIn (Fence.wide.inRound l) (n - 1 - 1) P (fun e _ W' => e = .normal ∧ KeepsOthers W W' ∧ I pg (i + 1) W') (a₁ i) W)
    (hdone : ∀ (D : Nat) (pg : Option (Nat × Obj)) (W : World), w.heap.size ≤ D → I pg len W → W.heap[D]? = some (.deferred (some [])) → Q .normal { a with defers := { target := .collected D, args := #[] } :: a.defers } W) :
    (Code.rangeFunc g ps assign body).wpIn Fence.wide n P Q a w := by
  refine wpIn_rangeFunc ?_
  intro fn hfn
  have hro : Fence.wide.round = none := rfl
  rw [hro]
  obtain ⟨rec, hrec⟩ : ∃ rec : LoopState → Option Code → Loop, rec = fun st pe => { state := st, pending := pe, fn, tmps := a.tmps, params := ps, assign, body, defers := w.heap.size } := ⟨_, rfl⟩
  obtain ⟨W1, hW1⟩ : ∃ W1, (w.alloc (.deferred (some []))).alloc (.loop (rec .ready none)) = W1 := ⟨_, rfl⟩
  have hL1 : W1.heap[w.heap.size + 1]? = some (.loop (rec .ready none)) := by
    rw [← hW1]; have := World.alloc_heap_new (w.alloc (.deferred (some []))) (.loop (rec .ready none)); rwa [World.size_alloc] at this
  have hK1 : W1.heap[w.heap.size]? = some (.deferred (some [])) := by
    rw [← hW1]; exact (Below.heap_alloc _ _ _ (by first | (simp; done) | (simp; omega))).trans (World.alloc_heap_new w _)
  have hb1 : Below w.heap.size w W1 := by
    rw [← hW1]; exact ((Below.refl _ w).alloc (Nat.le_refl _) _).alloc (by simp) _
  have hs1 : W1.heap.size = w.heap.size + 2 := by rw [← hW1]; simp
  refine ⟨w.heap.size + 1, [{ target := .collected w.heap.size, args := #[] }], W1, { target := .fn (.func gf) lb, args := #[.func (.yield (w.heap.size + 1)) #[] #[]] }, W1, gf,
    #[.func (.yield (w.heap.size + 1)) #[] #[]] ++ lb, W1, ?_, ?_, ?_, ?_, fun _ => h1, ?_⟩
  · rw [← hW1, hrec]; exact run_enterLoop_outer _ _ _ _ _
  · simp only [resolve, hg]
    simp [go_sem]
  · intro f' hf'; trivial
  · simp [invoke, go_sem, eg]
  · refine (hseq (w.heap.size + 1)
      (fun pg i W => I pg i W ∧ W.heap[w.heap.size + 1]? = some (.loop (rec .ready none)) ∧ W.heap[w.heap.size]? = some (.deferred (some [])))
      W1 hb1 (fun W' hb => ⟨hI0 W' (hb1.trans (hb.mono hb1.size)), (hb.block _ (by omega)).trans hL1, (hb.block _ (by omega)).trans hK1⟩)
      (fun W' g o hb hgl hgo hoc => ⟨hIS W' g o (hb1.trans (hb.mono hb1.size)) (by omega) hgo hoc, (hb.block _ (by omega)).trans hL1, (hb.block _ (by omega)).trans hK1⟩)
      (fun pg i W' h => h.1) ?_).mono ?_
    · rintro pg i W hlen ⟨hi, hl, hk⟩
      have hlt : w.heap.size + 1 < W.heap.size := (Array.getElem?_eq_some_iff.1 hl).1
      have hy := run_yield (P := P) (args := encs i) hl (by rw [hrec]; exact hps i)
      rw [hrec] at hy
      refine ⟨fn, _, assign, body, hy, roundIn_of_wpIn hfn (hassign _ i W _ ⟨_, run_beginRound hl (by rw [hrec]), ?_⟩)⟩
      have hl2 : (W.putObj (w.heap.size + 1) (.loop { rec .ready none with state := .busy })).heap[w.heap.size + 1]? = some (.loop { rec .ready none with state := .busy }) := World.putObj_heap_same hlt
      have hk2 : (W.putObj (w.heap.size + 1) (.loop { rec .ready none with state := .busy })).heap[w.heap.size]? = some (.deferred (some [])) := (World.putObj_heap_other (by omega)).trans hk
      refine wpIn_mono (hbody _ pg i _ hlen (hI _ _ _ _ _ _ hi (by omega) hl rfl)) ?_
      rintro e a3 W3 ⟨rfl, hk3, hi3⟩
      have hl3 := hk3.same _ _ hl2 rfl
      have hend := run_endRound (P := P) none hl3
      rw [hrec] at hend
      refine ⟨_, _, hend, rfl, ?_⟩
      rw [hrec] at hl3
      refine ⟨hI _ _ _ _ _ _ hi3 (by omega) hl3 rfl, ?_, (World.putObj_heap_other (by omega)).trans (hk3.same _ _ hk2 rfl)⟩
      rw [hrec]
      exact World.putObj_heap_same (Array.getElem?_eq_some_iff.1 hl3).1
    · rintro e W2 ⟨⟨v, rfl⟩, pg, hi, hl, hk⟩
      exact ⟨none, _, by have := run_endLoop (P := P) hl (by rw [hrec]; simp); rw [hrec] at this; exact this, hdone _ pg _ (Nat.le_refl _) (hI _ _ _ _ _ _ hi (by omega) hl rfl) ((World.putObj_heap_other (by omega)).trans hk)⟩

def exC (p : Nat × ByteArray) : List CV := [.v (.int .i64 (p.1 : Int)), .v (.string p.2)]
def exV (p : Nat × ByteArray) : List Value := [.int .i64 (p.1 : Int), .string p.2]
/-- Numbers that have a text, with their texts. -/
def exL (E : List Ent) : List (Nat × ByteArray) := (lives E).map fun i => (i, (E.getD i (emp, 0)).1)
theorem exL_len (E : List Ent) : (exL E).length = (lives E).length := by simp [exL]
theorem info_ex : (Try.prog.info? 52).map (fun i => (i.zero, i.size, i.bytes)) = some (some (.agg #[.int .i64 0, .string ⟨#[]⟩]), 2, 24) := by kernel_rfl

/-- Between two rounds of entries: the box Bo holds a slice that owns, in a block of the call's own, what has come so far; nothing that lay in w0 has turned. -/
structure EnAt (w0 : World) (Bo : Nat) (E : List Ent) (pg : Option (Nat × Obj)) (i : Nat) (W : World) : Prop where
  box : ∃ v, W.heap[Bo]? = some (.cells #[v] 47 (0, 0)) ∧ W.ownsRow w0.heap.size 52 2 v i (((exL E).take i).flatMap exV) ∧ (v = .slice none 0 0 ↔ i = 0) ∧ ∀ g o, pg = some (g, o) → v.ownBlock ≠ some g
  below : Below w0.heap.size w0 W
  pin : ∀ g o, pg = some (g, o) → W.heap[g]? = some o ∧ o.isCells = true ∧ g ≠ Bo

/-- Block j bears what no row of entries is. -/
theorem row_off {W : World} {base : Nat} {v : Value} {k : Nat} {xs : List Value} (h : W.ownsRow base 52 2 v k xs) {j : Nat} {o : Obj} (hj : W.heap[j]? = some o) (hno : ∀ cur, o ≠ .cells cur 52 (0, 0)) : v.ownBlock = none ∨ v.ownBlock ≠ some j := ownsRow_ne_a h hj hno
theorem EnAt.put {w0 : World} {Bo : Nat} {E : List Ent} {pg : Option (Nat × Obj)} {i : Nat} {W : World} (h : EnAt w0 Bo E pg i W) {l : Nat} {o : Obj} (o' : Obj) (hl : w0.heap.size ≤ l) (ho : W.heap[l]? = some o) (hc : o.isCells = false) : EnAt w0 Bo E pg i (W.putObj l o') := by
  obtain ⟨v, h1, h2, h3, h4⟩ := h.box
  have hBo : Bo ≠ l := fun e => by
    subst e
    rw [h1] at ho
    injection ho with ho
    subst ho
    cases hc
  refine ⟨⟨v, (World.putObj_heap_other hBo).trans h1, h2.kept (grownBy_putObj_a W l o') (row_off h2 ho fun cur e => by subst e; cases hc), h3, h4⟩, h.below.grown (grownBy_putObj_a W l o') h.below.size (fun k e => by cases e; exact hl), fun g og hg => ?_⟩
  obtain ⟨q1, q2, q3⟩ := h.pin g og hg
  refine ⟨(World.putObj_heap_other fun e => ?_).trans q1, q2, q3⟩
  subst e
  rw [q1] at ho
  injection ho with ho
  subst ho
  rw [hc] at q2
  cases q2
theorem EnAt.start {w0 w : World} {Bo : Nat} {E : List Ent} (hb : Below w0.heap.size w0 w) (hBo : w.heap[Bo]? = some (.cells #[.slice none 0 0] 47 (0, 0))) {W : World} (hW : Below w.heap.size w W) {pg : Option (Nat × Obj)} (hp : ∀ g o, pg = some (g, o) → W.heap[g]? = some o ∧ o.isCells = true ∧ g ≠ Bo) : EnAt w0 Bo E pg 0 W := by
  have hlt := (Array.getElem?_eq_some_iff.1 hBo).1
  refine ⟨⟨.slice none 0 0, (hW.block Bo hlt).trans hBo, ⟨by simp, Or.inl ⟨rfl, rfl⟩⟩, by simp, fun g o _ e => by cases e⟩, hb.trans (hW.mono hb.size), hp⟩

theorem cells_new (w : World) (xs : List Value) (t : TypeId) : ∀ (j : Nat) (u : Value), xs[j]? = some u → (w.alloc (.cells xs.toArray t)).cell? ((⟨w.heap.size, 0, none⟩ : Addr).add j) = some u := by
  intro j u hj
  have h := World.alloc_heap_new w (.cells xs.toArray t)
  rw [add_none, Nat.zero_add]
  exact cell_of_heap h (by simpa using hj)

theorem seq_nil (f : Nat) (lb : Array Value) (w : World) : (binOp .eql 38 (.func (.func f) #[] lb) .nilFunc).run Try.prog w = .ok (.bool false) w := by
  have he : (Op.equal 38 (.func (.func f) #[] lb) .nilFunc).run Try.prog w = .ok false w := by
    show (Op.equalIn (9999 + 1) 38 _ _).run Try.prog w = _
    unfold Op.equalIn
    simp [run_under Try.underlying38]
  exact run_eqN (b := true) rfl (by simp) (by simp) (by simp) (by simp) w he

theorem entries_in (n : Nat) (hn : 10 ≤ n) (β bm : Nat) (a : Option Addr) (cap : Nat) (E : List Ent) (N : List (ByteArray × Nat)) (w : World) (most : Nat) (hm : (lives E).length ≤ most) (hm2 : most ≤ 1000000)
    (hT : ∀ w', Below w.heap.size w w' → ∀ Bt, Bt < w'.heap.size → w'.cell? ⟨Bt, 0, none⟩ = some (.pointer (some ⟨β, 0, none⟩)) → TW w' Bt β bm a cap E N) :
    CallsIn Fence.wide n Try.prog 24 #[.pointer (some ⟨β, 0, none⟩), .int .i64 most] w fun e w' => ∃ v, e = .returned (.tuple #[v, .bool true]) ∧
      w'.ownsRow w.heap.size 52 2 v (exL E).length ((exL E).flatMap exV) ∧ (v = .slice none 0 0 ↔ exL E = []) ∧ Below w.heap.size w w' := by
  have h1 : 1 ≤ n := by omega
  have hro : Fence.wide.round = none := rfl
  have hEq := fun (lb : Array Value) (w : World) => seq_nil 33 lb w
  have hf16 : Fence.wide.fn 16 := trivial
  have cE : ∀ p W, CallsIn Fence.wide (n - 1) Try.prog 16 #[.pointer p] W fun e w' => e = .returned (.func (.func 33) #[] #[.pointer (some ⟨W.heap.size, 0, none⟩)]) ∧ w' = W.alloc (.cells #[.pointer p] 24) := fun p W => by
    refine callsIn_of_wp Try.func16 rfl trivial ?_ hro
    simp only [Try.ntmps16, List.size_toArray, List.length_cons, List.length_nil, Nat.reduceAdd, Nat.reduceSub, Array.replicate_succ, Array.replicate_zero, List.push_toArray, List.append_toArray, List.nil_append, List.cons_append]
    gi_wp2
    go_ret
    exact ⟨rfl, rfl⟩
  refine callsIn_of_wp_marks Try.func24 rfl trivial ?_ hro
  simp only [Try.ntmps24, List.size_toArray, List.length_cons, List.length_nil, Nat.reduceAdd, Nat.reduceSub, Array.replicate_succ, Array.replicate_zero, List.push_toArray, List.append_toArray, List.nil_append, List.cons_append]
  gi_wp2_with (gi_at_call 16; refine (cE _ _).mono ?_; rintro e w' ⟨rfl, rfl⟩)
  generalize hw4 : (((w.alloc (.cells #[.int .i64 (most : Int)] 3)).alloc (.cells #[.slice none 0 0] 47)).alloc (.cells #[.bool false] 4)).alloc (.cells #[.pointer (some ⟨β, 0, none⟩)] 24) = w4
  have hs4 : w4.heap.size = w.heap.size + 4 := by rw [← hw4]; simp
  have hb4 : Below w.heap.size w w4 := by
    rw [← hw4]
    exact (((((Below.refl _ w).alloc (Nat.le_refl _) _).alloc (by rw [World.size_alloc]; omega) _).alloc (by rw [World.size_alloc, World.size_alloc]; omega) _)).alloc (by rw [World.size_alloc, World.size_alloc, World.size_alloc]; omega) _
  have q3 : w4.heap[w.heap.size]? = some (.cells #[.int .i64 (most : Int)] 3 (0, 0)) := by
    rw [← hw4]
    exact (Below.heap_alloc _ _ _ (by first | (simp; done) | (simp; omega))).trans ((Below.heap_alloc _ _ _ (by first | (simp; done) | (simp; omega))).trans ((Below.heap_alloc _ _ _ (by first | (simp; done) | (simp; omega))).trans (World.alloc_heap_new w _)))
  have q4 : w4.heap[w.heap.size + 1]? = some (.cells #[.slice none 0 0] 47 (0, 0)) := by
    rw [← hw4]
    have := World.alloc_heap_new (w.alloc (.cells #[.int .i64 (most : Int)] 3)) (.cells #[.slice none 0 0] 47)
    rw [World.size_alloc] at this
    exact (Below.heap_alloc _ _ _ (by first | (simp; done) | (simp; omega))).trans ((Below.heap_alloc _ _ _ (by first | (simp; done) | (simp; omega))).trans this)
  have q5 : w4.heap[w.heap.size + 1 + 1]? = some (.cells #[.bool false] 4 (0, 0)) := by
    rw [← hw4]
    have := World.alloc_heap_new ((w.alloc (.cells #[.int .i64 (most : Int)] 3)).alloc (.cells #[.slice none 0 0] 47)) (.cells #[.bool false] 4)
    rw [World.size_alloc, World.size_alloc] at this
    exact (Below.heap_alloc _ _ _ (by first | (simp; done) | (simp; omega))).trans this
  have q6 : w4.heap[w.heap.size + 1 + 1 + 1]? = some (.cells #[.pointer (some ⟨β, 0, none⟩)] 24 (0, 0)) := by
    rw [← hw4]
    have := World.alloc_heap_new (((w.alloc (.cells #[.int .i64 (most : Int)] 3)).alloc (.cells #[.slice none 0 0] 47)).alloc (.cells #[.bool false] 4)) (.cells #[.pointer (some ⟨β, 0, none⟩)] 24)
    rw [World.size_alloc, World.size_alloc, World.size_alloc] at this
    exact this
  generalize hw5 : w4.alloc (.cells #[.slice none 0 0] 47) = w5
  have hs5 : w5.heap.size = w.heap.size + 5 := by rw [← hw5]; simp [hs4]
  have hb5 : Below w4.heap.size w4 w5 := by rw [← hw5]; exact (Below.refl _ w4).alloc (Nat.le_refl _) _
  have q7 : w5.heap[w.heap.size + 1 + 1 + 1 + 1]? = some (.cells #[.slice none 0 0] 47 (0, 0)) := by
    rw [← hw5]
    have := World.alloc_heap_new w4 (.cells #[.slice none 0 0] 47)
    rw [hs4] at this
    exact this
  have hTW := hT w4 hb4 (w.heap.size + 1 + 1 + 1) (by omega) (cell_of_box_a q6).1
  clear hw4 hw5 cE hEq hf16
  refine wpIn_rangeP h1 (gf := 33) (lb := #[.pointer (some ⟨w.heap.size + 1 + 1 + 1, 0, none⟩)]) rfl (enters_of Try.func33 (by kernel_rfl) rfl) (encs := encI E) (lives E).length (fun _ => rfl)
    (EnAt w4 (w.heap.size + 1 + 1 + 1 + 1) E) (fun pg i W l o o' h hl ho hc => h.put o' (by omega) ho hc) (fun W hW => EnAt.start hb5 q7 hW (fun g o e => by cases e))
    (fun W g o hW hg hgo hgc => EnAt.start hb5 q7 hW (fun g' o' e => by injection e with e; injection e with e1 e2; subst e1 e2; exact ⟨hgo, hgc, by omega⟩))
    (fun l J W hW hB hS hI hY => each1_in (n - 1) (by omega) l _ β bm a cap E N w4 W hTW (hb5.trans (hW.mono (by omega))) J hB hS (fun pg i W' h => (hI pg i W' h).below) (fun g o i W' h => ((hI _ i W' h).pin g o rfl).1) hY)
    (fun i => { tmps := #[.pointer (some ⟨β, 0, none⟩), .int .i64 (most : Int), undef, .pointer (some ⟨w.heap.size, 0, none⟩), .pointer (some ⟨w.heap.size + 1, 0, none⟩), .pointer (some ⟨w.heap.size + 1 + 1, 0, none⟩), .func (.func 33) #[] #[.pointer (some ⟨w.heap.size + 1 + 1 + 1, 0, none⟩)], .pointer (some ⟨w.heap.size + 1 + 1 + 1 + 1, 0, none⟩), .int .i64 (kI E i : Int), .string (tI E i), .pointer (some ⟨β, 0, none⟩), .func (.func 33) #[] #[.pointer (some ⟨w.heap.size + 1 + 1 + 1, 0, none⟩)], .func (.func 33) #[] #[.pointer (some ⟨w.heap.size + 1 + 1 + 1, 0, none⟩)], .bool false, .func (.func 33) #[] #[.pointer (some ⟨w.heap.size + 1 + 1 + 1, 0, none⟩)], .int .i64 (kI E i : Int), .string (tI E i), undef, undef, undef, undef, undef, undef, undef, undef, undef, undef, undef], defers := [] }) ?assign ?body ?done
  case assign =>
    intro l i W K hK
    gi_wp2_with gi_round_op_a
    exact hK
  case body =>
    intro l pg i W hi hA
    obtain ⟨v, hv, hrow, hnil, hoff⟩ := hA.box
    have hbel := hA.below
    have hpin := hA.pin
    clear hA
    obtain ⟨c7, z7⟩ := cell_of_box_a hv
    obtain ⟨c3, z3⟩ := cell_of_box_a ((hbel.block _ (by omega)).trans q3)
    have hWs : w4.heap.size ≤ W.heap.size := hbel.size
    have hBoW : w.heap.size + 1 + 1 + 1 + 1 < W.heap.size := (Array.getElem?_eq_some_iff.1 hv).1
    obtain ⟨i0, hinf, hz0, hz1, hz2⟩ := info_parts info_ex
    have hdm : ((most : Int) < (i : Int)) = False := eq_false (by omega)
    have hnext : (exL E).take (i + 1) = (exL E).take i ++ [(kI E i, tI E i)] := by
      have hl : i < (exL E).length := by rw [exL_len]; exact hi
      rw [← List.take_append_getElem hl]
      congr 2
      simp [exL, kI, tI, List.getD_eq_getElem?_getD, hi]
    have hlow : i + 1 ≤ maxLen := by unfold maxLen; omega
    have hrow' := hrow.alloc (.cells #[.int .i64 (kI E i : Int), .string (tI E i)] 52)
    have fin : ∀ (v' : Value) (w3 : World), w3.ownsRow w4.heap.size 52 2 v' (i + 1) (((exL E).take i).flatMap exV ++ [.int .i64 (kI E i : Int), .string (tI E i)]) → (W.alloc (.cells #[.int .i64 (kI E i : Int), .string (tI E i)] 52)).grownBy w3 v.ownBlock →
        (v'.ownBlock = v.ownBlock ∨ v'.ownBlock = some (W.heap.size + 1)) → (v' = .slice none 0 0 ↔ v = .slice none 0 0 ∧ 1 = 0) →
        w3.heap[w.heap.size + 1 + 1 + 1 + 1]? = some (.cells #[v] 47 (0, 0)) ∧ (KeepsOthers W (w3.setCell ⟨w.heap.size + 1 + 1 + 1 + 1, 0, none⟩ v') ∧ EnAt w4 (w.heap.size + 1 + 1 + 1 + 1) E pg (i + 1) (w3.setCell ⟨w.heap.size + 1 + 1 + 1 + 1, 0, none⟩ v')) := fun v' w3 ho hg hat hn => by
      have hv2 : (W.alloc (.cells #[.int .i64 (kI E i : Int), .string (tI E i)] 52)).heap[w.heap.size + 1 + 1 + 1 + 1]? = some (.cells #[v] 47 (0, 0)) := (Below.heap_alloc _ _ _ hBoW).trans hv
      have off := row_off hrow hv (fun cur e => by injection e with e1 e2; revert e2; decide)
      have ne : some (w.heap.size + 1 + 1 + 1 + 1) ≠ v.ownBlock := by
        rcases off with e | e
        · rw [e]; simp
        · exact fun e' => e e'.symm
      have h1 : w3.heap[w.heap.size + 1 + 1 + 1 + 1]? = some (.cells #[v] 47 (0, 0)) := (hg.block _ (by rw [World.size_alloc]; omega) ne).trans hv2
      have hb3 : Below w4.heap.size w4 w3 := (hbel.alloc hWs _).grown hg (by rw [World.size_alloc]; omega) (fun k e => (hrow'.lt k e).1)
      refine ⟨h1, (KeepsOthers.alloc W _).trans ((KeepsOthers.of_grownBy hg (fun j o hj hjo => ?_)).trans (KeepsOthers.setCell _ _ _)), ⟨v', heap_setCell_box_a v' h1, ?_, ?_, fun g o e => ?_⟩, hb3.setCell (p := ⟨w.heap.size + 1 + 1 + 1 + 1, 0, none⟩) (by show w4.heap.size ≤ w.heap.size + 1 + 1 + 1 + 1; omega) _, fun g o e => ?_⟩
      · rcases hrow'.2 with ⟨rfl, _⟩ | ⟨g, cp, cur, rfl, _, hgg, _⟩
        · cases hj
        · injection hj with hj
          have hj : g = j := hj
          subst hj
          rw [hgg] at hjo
          injection hjo with hjo
          subst hjo
          rfl
      · rw [hnext, List.flatMap_append]
        have := ho.kept (grownBy_setCell0_a w3 (w.heap.size + 1 + 1 + 1 + 1) v') (row_off ho h1 (fun cur e => by injection e with e1 e2; revert e2; decide))
        simpa [exV] using this
      · constructor
        · intro e
          have := (hn.1 e).2
          cases this
        · intro e; omega
      · have hgo := (hpin g o e).1
        have hgl := (Array.getElem?_eq_some_iff.1 hgo).1
        rcases hat with h | h
        · rw [h]; exact hoff g o e
        · rw [h]
          intro e2
          injection e2 with e2
          omega
      · obtain ⟨p1, p2, p3⟩ := hpin g o e
        have hgl := (Array.getElem?_eq_some_iff.1 p1).1
        refine ⟨?_, p2, p3⟩
        have a1 : (w3.setCell ⟨w.heap.size + 1 + 1 + 1 + 1, 0, none⟩ v').heap[g]? = w3.heap[g]? := Below.heap_setCell w3 ⟨w.heap.size + 1 + 1 + 1 + 1, 0, none⟩ v' g p3
        rw [a1, hg.block g (by rw [World.size_alloc]; omega) (fun e' => hoff g o e e'.symm)]
        exact (Below.heap_alloc _ _ g hgl).trans p1
    have hmem := cells_new W [.int .i64 (kI E i : Int), .string (tI E i)] 52
    have FIN := Lib.hid fin
    have HMEM := Lib.hid hmem
    have HROW := Lib.hid hrow
    have HROW2 := Lib.hid hrow'
    have HV := Lib.hid hv
    have HI := Lib.hid hinf
    have HZ := Lib.hid hz0
    have HZ1 := Lib.hid hz1
    have HZ2 := Lib.hid hz2
    clear q3 q4 q5 q6 q7 hTW hT hnext hpin hbel hoff fin hmem hrow' hnil hb4 hb5 hinf hz0 hz1 hz2 hv
    have hlen : ∀ w' : World, (Builtin.len_ #[47] 3 #[v]).run Try.prog w' = .ok (.int .i64 (i : Int)) w' := fun w' => by
      rcases hrow.2 with ⟨rfl, rfl⟩ | ⟨g, cp, cur, rfl, _⟩
      · simp [Builtin.len_, run_under Try.underlying47, goInt]
      · simp [Builtin.len_, run_under Try.underlying47, goInt]
    clear hrow
    gi_wp2_with (first
      | (gi_at_builtin; refine wpListIn_append_own_at _ rfl _ _ 47 rfl w4.heap.size 52 i0 (.agg #[.int .i64 0, .string ⟨#[]⟩]) 2 24 Try.underlying47 HI.out HZ.out HZ1.out HZ2.out rfl (by decide) _ i _ rfl HROW2.out ⟨W.heap.size, 0, none⟩ 1 1 [.int .i64 (kI E i : Int), .string (tI E i)] rfl rfl HMEM.out (by simp [Value.oneCell']) (by omega) (by omega) (by rw [World.size_alloc]; omega) ?_
         intro v' w3 ho hg hn hat
         rw [World.size_alloc] at hat
         obtain ⟨h1, hfin⟩ := FIN.out v' w3 ho hg hat hn
         obtain ⟨g', cp', cur', rfl, y1, y2, y3, y4, y5, y6⟩ := ho.2.resolve_left (fun h => by have := h.2; omega)
         obtain ⟨c8, z8⟩ := cell_of_box_a h1
         have HFIN := Lib.hid hfin
         clear ho hg hn hat hfin h1 y1 y2 y3 y4 y5 y6 c7 z7 c3 z3 hdm hlen
         go_frame)
      | gi_round_op_a)
    exact HFIN.out
  case done =>
    intro D pg W hD hA hK
    obtain ⟨v, hv, hrow, hnil, hoff⟩ := hA.box
    have hbel := hA.below
    clear hA hoff
    obtain ⟨c7, z7⟩ := cell_of_box_a hv
    have b4 := (hbel.block (w.heap.size + 1) (by omega)).trans q4
    have b5 := (hbel.block (w.heap.size + 1 + 1) (by omega)).trans q5
    obtain ⟨c4, z4⟩ := cell_of_box_a b4
    obtain ⟨c5, z5⟩ := cell_of_box_a b5
    obtain ⟨U, hU⟩ : ∃ U, U = (W.setCell ⟨w.heap.size + 1, 0, none⟩ v).setCell ⟨w.heap.size + 1 + 1, 0, none⟩ (.bool true) := ⟨_, rfl⟩
    have u4 : U.heap[w.heap.size + 1]? = some (.cells #[v] 47 (0, 0)) := by
      rw [hU]
      exact (Below.heap_setCell _ ⟨w.heap.size + 1 + 1, 0, none⟩ _ _ (by show w.heap.size + 1 ≠ w.heap.size + 1 + 1; omega)).trans (heap_setCell_box_a v b4)
    have u5 : U.heap[w.heap.size + 1 + 1]? = some (.cells #[.bool true] 4 (0, 0)) := by
      rw [hU]
      refine heap_setCell_box_a (v := .bool false) _ ?_
      exact (Below.heap_setCell _ ⟨w.heap.size + 1, 0, none⟩ _ _ (by show w.heap.size + 1 + 1 ≠ w.heap.size + 1; omega)).trans b5
    have uK : U.heap[D]? = some (.deferred (some [])) := by
      rw [hU]
      exact (KeepsOthers.setCell _ _ _).same D _ ((KeepsOthers.setCell _ _ _).same D _ hK rfl) rfl
    have uB : Below w.heap.size w U := by
      rw [hU]
      exact ((hb4.trans (hbel.mono hb4.size)).setCell (p := ⟨w.heap.size + 1, 0, none⟩) (by show w.heap.size ≤ w.heap.size + 1; omega) _).setCell (p := ⟨w.heap.size + 1 + 1, 0, none⟩) (by show w.heap.size ≤ w.heap.size + 1 + 1; omega) _
    have r1 := hrow.kept (grownBy_setCell0_a W (w.heap.size + 1) v) (row_off hrow b4 (fun cur e => by injection e with e1 e2; revert e2; decide))
    have b5' : (W.setCell ⟨w.heap.size + 1, 0, none⟩ v).heap[w.heap.size + 1 + 1]? = some (.cells #[.bool false] 4 (0, 0)) := (Below.heap_setCell _ ⟨w.heap.size + 1, 0, none⟩ _ _ (by show w.heap.size + 1 + 1 ≠ w.heap.size + 1; omega)).trans b5
    have r2 := r1.kept (grownBy_setCell0_a _ (w.heap.size + 1 + 1) (.bool true)) (row_off r1 b5' (fun cur e => by injection e with e1 e2; revert e2; decide))
    rw [← hU] at r2
    have r3 := r2.kept (grownBy_putObj_a U D (.deferred none)) (row_off r2 uK (fun cur e => by cases e))
    have r4 := ownsRow_base_a r3 hb4.size
    have e4 : (U.putObj D (.deferred none)).cell? ⟨w.heap.size + 1, 0, none⟩ = some v := (cell_of_box_a ((World.putObj_heap_other (by omega)).trans u4)).1
    have e5 : (U.putObj D (.deferred none)).cell? ⟨w.heap.size + 1 + 1, 0, none⟩ = some (.bool true) := (cell_of_box_a ((World.putObj_heap_other (by omega)).trans u5)).1
    have eB : Below w.heap.size w (U.putObj D (.deferred none)) := uB.grown (grownBy_putObj_a U D (.deferred none)) uB.size (fun k e => by cases e; omega)
    have hfull : (exL E).take (lives E).length = exL E := List.take_of_length_le (by rw [exL_len]; exact Nat.le_refl _)
    rw [hfull] at r4
    have hnil2 : v = .slice none 0 0 ↔ exL E = [] := by
      rw [hnil, ← exL_len, List.length_eq_zero_iff]
    rw [← exL_len] at r4
    have HR := Lib.hid r4
    have HE4 := Lib.hid e4
    have HE5 := Lib.hid e5
    have HEB := Lib.hid eB
    have HNIL := Lib.hid hnil2
    have HK := Lib.hid uK
    have HU := Lib.hid hU
    clear q3 q4 q5 q6 q7 hTW hT hbel hnil hK hb4 hb5 b4 b5 hv u4 u5 uK uB r1 b5' r2 r3 r4 e4 e5 eB hfull hnil2 hU
    rcases hrow.2 with ⟨rfl, hk⟩ | ⟨g, cp, cur, rfl, hgb, hgg, r1, r2, r3, r4⟩
    · clear hrow
      gi_wp2
      rw [← HU.out]
      refine ⟨by simp, .inl ⟨_, _, rfl, run_takeDeferred HK.out, ?_⟩⟩
      refine ⟨.tuple #[.slice none 0 0, .bool true], ?_, _, rfl, HR.out, (by have := HNIL.out; simpa using this), HEB.out⟩
      have e4 := HE4.out
      have e5 := HE5.out
      simp [results, Try.f24, go_sem, e4, e5]
    · clear hrow r4 r3 r2 r1 hgb hgg
      gi_wp2
      rw [← HU.out]
      refine ⟨by simp, .inl ⟨_, _, rfl, run_takeDeferred HK.out, ?_⟩⟩
      refine ⟨.tuple #[.slice (some ⟨g, 0, none⟩) (lives E).length cp, .bool true], ?_, _, rfl, HR.out, (by have := HNIL.out; simpa using this), HEB.out⟩
      have e4 := HE4.out
      have e5 := HE5.out
      simp [results, Try.f24, go_sem, e4, e5]
end Go.Proofs.Ytlhlcfijpdknfaa

/-
  Chapter 2: Take.
-/
set_option linter.unusedSimpArgs false
set_option linter.unusedVariables false
namespace Go.Proofs.Ytlhlcfijpdknfaa
open Go.Vs Go.Vs.Ab Go.Vs.Hp Go.Vs.Tb
set_option maxRecDepth 100000
set_option maxHeartbeats 4000000

/-- The memory with another block in a place. -/
def setB (m : Mm) (i : Nat) (nb : Blk) : Mm := ⟨m.hp.set i nb, m.hw⟩
theorem setB_self {m : Mm} {i : Nat} (h : i < m.hp.length) (nb : Blk) : (setB m i nb).hp[i]? = some nb := List.getElem?_set_self h
theorem setB_ne {m : Mm} {i j : Nat} (h : i ≠ j) (nb : Blk) : (setB m i nb).hp[j]? = m.hp[j]? := List.getElem?_set_ne h
theorem setB_len (m : Mm) (i : Nat) (nb : Blk) : (setB m i nb).hp.length = m.hp.length := List.length_set
theorem Kp.stB {m : Mm} (hW : Wf m) {i : Nat} {S : List Nat} (hi : i ∈ S) {nb : Blk} (hl : lows m.hp.length m.hw.length nb.cs = true) : Kp m (setB m i nb) S S :=
  ⟨rfl, by rw [setB_len]; exact Nat.le_refl _, fun j blk hj h => by rw [setB_ne (fun (e : i = j) => hj (e ▸ hi))]; exact h, fun j hj => Or.inl hj, hW.set hl⟩
theorem setB_eq (m : Mm) (i : Nat) (nb : Blk) : (⟨m.hp.set i nb, m.hw⟩ : Mm) = setB m i nb := rfl
theorem setB_hp (m : Mm) (i : Nat) (nb : Blk) : m.hp.set i nb = (setB m i nb).hp := rfl

theorem emp_size (s : ByteArray) : s = emp ↔ s.size < 1 := by
  constructor
  · rintro rfl
    decide
  · intro h
    cases s with
    | mk a =>
      have : a.size = 0 := by
        have : (ByteArray.mk a).size = a.size := rfl
        omega
      rw [Array.eq_empty_of_size_eq_zero this]
      rfl
theorem liveN_le (E : List Ent) : liveN E ≤ E.length := List.length_filter_le ..
theorem take_set {T : Type} {E L : List T} (h : E = L.take E.length) {k : Nat} (hk : k < E.length) (x : T) : E.set k x = (L.set k x).take (E.set k x).length := by
  rw [List.length_set, List.take_set, ← h]

theorem nd_last {b mb h : Nat} {s1 : List Nat} (hnd : (b :: mb :: (s1 ++ [h])).Nodup) : h ≠ b ∧ h ≠ mb ∧ h ∉ s1 := by
  refine ⟨fun e => ?_, fun e => ?_, fun e => ?_⟩
  · subst e; simp at hnd
  · subst e; simp at hnd
  · rw [List.nodup_cons, List.nodup_cons, List.nodup_append] at hnd
    exact hnd.2.2.2.2 h e h (by simp) rfl
theorem take_bad {m : Mm} {b : Nat} {E : List Ent} {S : List Nat} (h : TabM m b E S) {s : ByteArray} (hs : s.size < 1 ∨ 255 < s.size) : GivesW Try.prog 10 [.ptr b 0, sA s] m (.tup [iA 0, iA 2]) m := by
  cases h1 : decide (s = ⟨#[]⟩) with
  | true =>
    refine givesW_of' Try.func10 rfl (by kernel_rfl) Try.ntmps10 rfl rfl fun Q hQ => ?_
    repeat (first
        | refine tr_seq_k fun _ _ => ?_
        | (refine tr_region ?_; simp only [go_sem, List.getElem?_toArray, str_beq, reduceCtorEq, Nat.reduceEqDiff, Nat.reduceLT, Nat.reduceLeDiff, Nat.reduceAdd, Nat.reduceMul, Nat.reduceSub, Nat.reduceBEq, ↓reduceIte, bne_self_eq_false, Bool.and_false, Bool.false_and, Bool.true_or, Bool.false_or, h1])
        | (refine tr_drawS (id := 15) follows 14 [.op 14, .put 15] (by kernel_rfl) ?_; simp only [go_sem, List.getElem?_toArray, str_beq, reduceCtorEq, Nat.reduceEqDiff, Nat.reduceLT, Nat.reduceLeDiff, Nat.reduceAdd, Nat.reduceMul, Nat.reduceSub, Nat.reduceBEq, ↓reduceIte, bne_self_eq_false, Bool.and_false, Bool.false_and, Bool.true_or, Bool.false_or, h1])
        | refine k_of (by assumption) ?_
        | refine tr_block ?_
        | refine tr_scope ?_
        | (refine tr_skip ?_; try simp only [ex_seq, ex_block])
        | (refine tr_label ?_; try simp only [ex_seq, ex_block])
        | (refine tr_exit ?_; try simp only [ex_seq_exit, ex_block_exit, Nat.reduceEqDiff, if_true, if_false, ex_seq, ex_block, reduceCtorEq, ↓reduceIte])
        | (refine tr_ret ?_; try simp only [ex_seq_ret, ex_block_ret]))
    refine tr_cond rfl (fun ht => ?_) (fun hf => ?_)
    · cases ht
    · repeat (first
          | refine tr_seq_k fun _ _ => ?_
          | (refine tr_region ?_; simp only [go_sem, List.getElem?_toArray, str_beq, reduceCtorEq, Nat.reduceEqDiff, Nat.reduceLT, Nat.reduceLeDiff, Nat.reduceAdd, Nat.reduceMul, Nat.reduceSub, Nat.reduceBEq, ↓reduceIte, bne_self_eq_false, Bool.and_false, Bool.false_and, Bool.true_or, Bool.false_or, h1])
          | (refine tr_drawS (id := 15) follows 14 [.op 14, .put 15] (by kernel_rfl) ?_; simp only [go_sem, List.getElem?_toArray, str_beq, reduceCtorEq, Nat.reduceEqDiff, Nat.reduceLT, Nat.reduceLeDiff, Nat.reduceAdd, Nat.reduceMul, Nat.reduceSub, Nat.reduceBEq, ↓reduceIte, bne_self_eq_false, Bool.and_false, Bool.false_and, Bool.true_or, Bool.false_or, h1])
          | refine k_of (by assumption) ?_
          | refine tr_block ?_
          | refine tr_scope ?_
          | (refine tr_skip ?_; try simp only [ex_seq, ex_block])
          | (refine tr_label ?_; try simp only [ex_seq, ex_block])
          | (refine tr_exit ?_; try simp only [ex_seq_exit, ex_block_exit, Nat.reduceEqDiff, if_true, if_false, ex_seq, ex_block, reduceCtorEq, ↓reduceIte])
          | (refine tr_ret ?_; try simp only [ex_seq_ret, ex_block_ret]))
      refine tr_cond rfl (fun ht => ?_) (fun hf => ?_)
      · repeat (first
            | refine tr_seq_k fun _ _ => ?_
            | (refine tr_region ?_; simp only [go_sem, List.getElem?_toArray, str_beq, reduceCtorEq, Nat.reduceEqDiff, Nat.reduceLT, Nat.reduceLeDiff, Nat.reduceAdd, Nat.reduceMul, Nat.reduceSub, Nat.reduceBEq, ↓reduceIte, bne_self_eq_false, Bool.and_false, Bool.false_and, Bool.true_or, Bool.false_or])
            | (refine tr_drawS (id := 15) follows 14 [.op 14, .put 15] (by kernel_rfl) ?_; simp only [go_sem, List.getElem?_toArray, str_beq, reduceCtorEq, Nat.reduceEqDiff, Nat.reduceLT, Nat.reduceLeDiff, Nat.reduceAdd, Nat.reduceMul, Nat.reduceSub, Nat.reduceBEq, ↓reduceIte, bne_self_eq_false, Bool.and_false, Bool.false_and, Bool.true_or, Bool.false_or])
            | refine k_of (by assumption) ?_
            | refine tr_block ?_
            | refine tr_scope ?_
            | (refine tr_skip ?_; try simp only [ex_seq, ex_block])
            | (refine tr_label ?_; try simp only [ex_seq, ex_block])
            | (refine tr_exit ?_; try simp only [ex_seq_exit, ex_block_exit, Nat.reduceEqDiff, if_true, if_false, ex_seq, ex_block, reduceCtorEq, ↓reduceIte])
            | (refine tr_ret ?_; try simp only [ex_seq_ret, ex_block_ret]))
        refine (hQ _ _ [iA 0, iA 2] ?_ rfl rfl).2 <;> simp only [go_sem, List.getElem?_toArray, str_beq, reduceCtorEq, Nat.reduceEqDiff, Nat.reduceLT, Nat.reduceLeDiff, Nat.reduceAdd, Nat.reduceMul, Nat.reduceSub, Nat.reduceBEq, ↓reduceIte, bne_self_eq_false, Bool.and_false, Bool.false_and, Bool.true_or, Bool.false_or, Try.f10]
      · cases hf
  | false =>
    have h2 : decide ((255 : Int) < (s.size : Nat)) = true := decide_eq_true (by
      rcases hs with hs | hs
      · exact absurd ((emp_size s).2 hs) (of_decide_eq_false h1)
      · omega)
    refine givesW_of' Try.func10 rfl (by kernel_rfl) Try.ntmps10 rfl rfl fun Q hQ => ?_
    repeat (first
        | refine tr_seq_k fun _ _ => ?_
        | (refine tr_region ?_; simp only [go_sem, List.getElem?_toArray, str_beq, reduceCtorEq, Nat.reduceEqDiff, Nat.reduceLT, Nat.reduceLeDiff, Nat.reduceAdd, Nat.reduceMul, Nat.reduceSub, Nat.reduceBEq, ↓reduceIte, bne_self_eq_false, Bool.and_false, Bool.false_and, Bool.true_or, Bool.false_or, h1, h2])
        | (refine tr_drawS (id := 15) follows 14 [.op 14, .put 15] (by kernel_rfl) ?_; simp only [go_sem, List.getElem?_toArray, str_beq, reduceCtorEq, Nat.reduceEqDiff, Nat.reduceLT, Nat.reduceLeDiff, Nat.reduceAdd, Nat.reduceMul, Nat.reduceSub, Nat.reduceBEq, ↓reduceIte, bne_self_eq_false, Bool.and_false, Bool.false_and, Bool.true_or, Bool.false_or, h1, h2])
        | refine k_of (by assumption) ?_
        | refine tr_block ?_
        | refine tr_scope ?_
        | (refine tr_skip ?_; try simp only [ex_seq, ex_block])
        | (refine tr_label ?_; try simp only [ex_seq, ex_block])
        | (refine tr_exit ?_; try simp only [ex_seq_exit, ex_block_exit, Nat.reduceEqDiff, if_true, if_false, ex_seq, ex_block, reduceCtorEq, ↓reduceIte])
        | (refine tr_ret ?_; try simp only [ex_seq_ret, ex_block_ret]))
    refine tr_cond rfl (fun ht => ?_) (fun hf => ?_)
    · cases ht
    · repeat (first
          | refine tr_seq_k fun _ _ => ?_
          | (refine tr_region ?_; simp only [go_sem, List.getElem?_toArray, str_beq, reduceCtorEq, Nat.reduceEqDiff, Nat.reduceLT, Nat.reduceLeDiff, Nat.reduceAdd, Nat.reduceMul, Nat.reduceSub, Nat.reduceBEq, ↓reduceIte, bne_self_eq_false, Bool.and_false, Bool.false_and, Bool.true_or, Bool.false_or, h1, h2])
          | (refine tr_drawS (id := 15) follows 14 [.op 14, .put 15] (by kernel_rfl) ?_; simp only [go_sem, List.getElem?_toArray, str_beq, reduceCtorEq, Nat.reduceEqDiff, Nat.reduceLT, Nat.reduceLeDiff, Nat.reduceAdd, Nat.reduceMul, Nat.reduceSub, Nat.reduceBEq, ↓reduceIte, bne_self_eq_false, Bool.and_false, Bool.false_and, Bool.true_or, Bool.false_or, h1, h2])
          | refine k_of (by assumption) ?_
          | refine tr_block ?_
          | refine tr_scope ?_
          | (refine tr_skip ?_; try simp only [ex_seq, ex_block])
          | (refine tr_label ?_; try simp only [ex_seq, ex_block])
          | (refine tr_exit ?_; try simp only [ex_seq_exit, ex_block_exit, Nat.reduceEqDiff, if_true, if_false, ex_seq, ex_block, reduceCtorEq, ↓reduceIte])
          | (refine tr_ret ?_; try simp only [ex_seq_ret, ex_block_ret]))
      refine tr_cond rfl (fun ht => ?_) (fun hf => ?_)
      · repeat (first
            | refine tr_seq_k fun _ _ => ?_
            | (refine tr_region ?_; simp only [go_sem, List.getElem?_toArray, str_beq, reduceCtorEq, Nat.reduceEqDiff, Nat.reduceLT, Nat.reduceLeDiff, Nat.reduceAdd, Nat.reduceMul, Nat.reduceSub, Nat.reduceBEq, ↓reduceIte, bne_self_eq_false, Bool.and_false, Bool.false_and, Bool.true_or, Bool.false_or])
            | (refine tr_drawS (id := 15) follows 14 [.op 14, .put 15] (by kernel_rfl) ?_; simp only [go_sem, List.getElem?_toArray, str_beq, reduceCtorEq, Nat.reduceEqDiff, Nat.reduceLT, Nat.reduceLeDiff, Nat.reduceAdd, Nat.reduceMul, Nat.reduceSub, Nat.reduceBEq, ↓reduceIte, bne_self_eq_false, Bool.and_false, Bool.false_and, Bool.true_or, Bool.false_or])
            | refine k_of (by assumption) ?_
            | refine tr_block ?_
            | refine tr_scope ?_
            | (refine tr_skip ?_; try simp only [ex_seq, ex_block])
            | (refine tr_label ?_; try simp only [ex_seq, ex_block])
            | (refine tr_exit ?_; try simp only [ex_seq_exit, ex_block_exit, Nat.reduceEqDiff, if_true, if_false, ex_seq, ex_block, reduceCtorEq, ↓reduceIte])
            | (refine tr_ret ?_; try simp only [ex_seq_ret, ex_block_ret]))
        refine (hQ _ _ [iA 0, iA 2] ?_ rfl rfl).2 <;> simp only [go_sem, List.getElem?_toArray, str_beq, reduceCtorEq, Nat.reduceEqDiff, Nat.reduceLT, Nat.reduceLeDiff, Nat.reduceAdd, Nat.reduceMul, Nat.reduceSub, Nat.reduceBEq, ↓reduceIte, bne_self_eq_false, Bool.and_false, Bool.false_and, Bool.true_or, Bool.false_or, Try.f10]
      · cases hf

theorem take_found {m : Mm} {b : Nat} {E : List Ent} {S : List Nat} (h : TabM m b E S) (hW : Wf m) {s : ByteArray} {n : Nat} (hs : ¬ (s.size < 1 ∨ 255 < s.size)) (hf : findS E s = some n) (hU : ∀ e ∈ E, e.2 ≤ 100000) :
    ∃ m', GivesW Try.prog 10 [.ptr b 0, sA s] m (.tup [iA (n : Nat), iA 0]) m' ∧ TabM m' b (E.set n (s, (E.getD n (emp, 0)).2 + 1)) S ∧ Kp m m' S S := by
  obtain ⟨c1, c2, mb, F, N, s1, s2, hb, hF, hE, hN, hI, hS, hnd⟩ := h
  have h1 : decide (s = ⟨#[]⟩) = false := decide_eq_false (fun e => hs (Or.inl ((emp_size s).1 e)))
  have h2 : decide ((255 : Int) < (s.size : Nat)) = false := decide_eq_false (by omega)
  obtain ⟨hse, hn, u, hu⟩ := findS_some hf
  obtain ⟨k, hlk, _⟩ := nmI_some und_str hI.nnd ((hI.find s n).2 hf) (nmI N).isEmpty
  have p1 := hF.plain1
  obtain ⟨h, L, rfl, hs2, hL, hEL, hkL, hg⟩ := row_get hE hn
  have he : E[n] = (s, u) := (List.getElem?_eq_some_iff.1 hu).2
  have hg1 : (L[n]).1 = s := by rw [hg, he]
  have hub : (L[n]).2 ≤ 100000 := by rw [hg]; exact hU _ (List.getElem_mem hn)
  have i1 := en_idx (b := h) (n := E.length) hn
  have g1 := en_get1 hkL
  have w1 : IntKind.i64.wrap (((L[n]).2 : Nat) + 1) = (((L[n]).2 + 1 : Nat) : Int) := wrap_succ (by omega)
  have f1 := en_fit1 hkL
  have e1 := en_set1 hkL ((L[n]).2 + 1)
  subst hs2
  have hhl := (List.getElem?_eq_some_iff.1 hL).1
  have hhS : h ∈ S := by rw [hS]; simp
  have hk := Kp.stB (i := h) hW hhS (nb := ⟨false, blC enC (L.set n ((L[n]).1, (L[n]).2 + 1))⟩) lows_blC
  have hbS : h ≠ b ∧ h ≠ mb ∧ h ∉ s1 := nd_last (hS ▸ hnd)
  refine ⟨setB m h ⟨false, blC enC (L.set n ((L[n]).1, (L[n]).2 + 1))⟩, ?_, ?_, hk⟩
  · refine givesW_of' Try.func10 rfl (by kernel_rfl) Try.ntmps10 rfl rfl fun Q hQ => ?_
    repeat (first
        | refine tr_seq_k fun _ _ => ?_
        | (refine tr_region ?_; simp only [go_sem, List.getElem?_toArray, str_beq, reduceCtorEq, Nat.reduceEqDiff, Nat.reduceLT, Nat.reduceLeDiff, Nat.reduceAdd, Nat.reduceMul, Nat.reduceSub, Nat.reduceBEq, ↓reduceIte, bne_self_eq_false, Bool.and_false, Bool.false_and, Bool.true_or, Bool.false_or, h1, h2])
        | (refine tr_drawS (id := 15) follows 14 [.op 14, .put 15] (by kernel_rfl) ?_; simp only [go_sem, List.getElem?_toArray, str_beq, reduceCtorEq, Nat.reduceEqDiff, Nat.reduceLT, Nat.reduceLeDiff, Nat.reduceAdd, Nat.reduceMul, Nat.reduceSub, Nat.reduceBEq, ↓reduceIte, bne_self_eq_false, Bool.and_false, Bool.false_and, Bool.true_or, Bool.false_or, h1, h2])
        | refine k_of (by assumption) ?_
        | refine tr_block ?_
        | refine tr_scope ?_
        | (refine tr_skip ?_; try simp only [ex_seq, ex_block])
        | (refine tr_label ?_; try simp only [ex_seq, ex_block])
        | (refine tr_exit ?_; try simp only [ex_seq_exit, ex_block_exit, Nat.reduceEqDiff, if_true, if_false, ex_seq, ex_block, reduceCtorEq, ↓reduceIte])
        | (refine tr_ret ?_; try simp only [ex_seq_ret, ex_block_ret]))
    refine tr_cond rfl (fun ht => ?_) (fun hf => ?_)
    · cases ht
    · repeat (first
          | refine tr_seq_k fun _ _ => ?_
          | (refine tr_region ?_; simp only [go_sem, List.getElem?_toArray, str_beq, reduceCtorEq, Nat.reduceEqDiff, Nat.reduceLT, Nat.reduceLeDiff, Nat.reduceAdd, Nat.reduceMul, Nat.reduceSub, Nat.reduceBEq, ↓reduceIte, bne_self_eq_false, Bool.and_false, Bool.false_and, Bool.true_or, Bool.false_or, h1, h2])
          | (refine tr_drawS (id := 15) follows 14 [.op 14, .put 15] (by kernel_rfl) ?_; simp only [go_sem, List.getElem?_toArray, str_beq, reduceCtorEq, Nat.reduceEqDiff, Nat.reduceLT, Nat.reduceLeDiff, Nat.reduceAdd, Nat.reduceMul, Nat.reduceSub, Nat.reduceBEq, ↓reduceIte, bne_self_eq_false, Bool.and_false, Bool.false_and, Bool.true_or, Bool.false_or, h1, h2])
          | refine k_of (by assumption) ?_
          | refine tr_block ?_
          | refine tr_scope ?_
          | (refine tr_skip ?_; try simp only [ex_seq, ex_block])
          | (refine tr_label ?_; try simp only [ex_seq, ex_block])
          | (refine tr_exit ?_; try simp only [ex_seq_exit, ex_block_exit, Nat.reduceEqDiff, if_true, if_false, ex_seq, ex_block, reduceCtorEq, ↓reduceIte])
          | (refine tr_ret ?_; try simp only [ex_seq_ret, ex_block_ret]))
      refine tr_cond rfl (fun ht => ?_) (fun hf => ?_)
      · cases ht
      · repeat (first
            | refine tr_seq_k fun _ _ => ?_
            | (refine tr_region ?_; simp only [go_sem, List.getElem?_toArray, str_beq, reduceCtorEq, Nat.reduceEqDiff, Nat.reduceLT, Nat.reduceLeDiff, Nat.reduceAdd, Nat.reduceMul, Nat.reduceSub, Nat.reduceBEq, ↓reduceIte, bne_self_eq_false, Bool.and_false, Bool.false_and, Bool.true_or, Bool.false_or, hb, p1, hN, hlk])
            | (refine tr_drawS (id := 15) follows 14 [.op 14, .put 15] (by kernel_rfl) ?_; simp only [go_sem, List.getElem?_toArray, str_beq, reduceCtorEq, Nat.reduceEqDiff, Nat.reduceLT, Nat.reduceLeDiff, Nat.reduceAdd, Nat.reduceMul, Nat.reduceSub, Nat.reduceBEq, ↓reduceIte, bne_self_eq_false, Bool.and_false, Bool.false_and, Bool.true_or, Bool.false_or, hb, p1, hN, hlk])
            | refine k_of (by assumption) ?_
            | refine tr_block ?_
            | refine tr_scope ?_
            | (refine tr_skip ?_; try simp only [ex_seq, ex_block])
            | (refine tr_label ?_; try simp only [ex_seq, ex_block])
            | (refine tr_exit ?_; try simp only [ex_seq_exit, ex_block_exit, Nat.reduceEqDiff, if_true, if_false, ex_seq, ex_block, reduceCtorEq, ↓reduceIte])
            | (refine tr_ret ?_; try simp only [ex_seq_ret, ex_block_ret]))
        refine tr_cond rfl (fun ht => ?_) (fun hf => ?_)
        · repeat (first
              | refine tr_seq_k fun _ _ => ?_
              | (refine tr_region ?_; simp only [go_sem, List.getElem?_toArray, str_beq, reduceCtorEq, Nat.reduceEqDiff, Nat.reduceLT, Nat.reduceLeDiff, Nat.reduceAdd, Nat.reduceMul, Nat.reduceSub, Nat.reduceBEq, ↓reduceIte, bne_self_eq_false, Bool.and_false, Bool.false_and, Bool.true_or, Bool.false_or, hb, p1, hL, i1, g1, w1, f1, e1])
              | (refine tr_drawS (id := 15) follows 14 [.op 14, .put 15] (by kernel_rfl) ?_; simp only [go_sem, List.getElem?_toArray, str_beq, reduceCtorEq, Nat.reduceEqDiff, Nat.reduceLT, Nat.reduceLeDiff, Nat.reduceAdd, Nat.reduceMul, Nat.reduceSub, Nat.reduceBEq, ↓reduceIte, bne_self_eq_false, Bool.and_false, Bool.false_and, Bool.true_or, Bool.false_or, hb, p1, hL, i1, g1, w1, f1, e1])
              | refine k_of (by assumption) ?_
              | refine tr_block ?_
              | refine tr_scope ?_
              | (refine tr_skip ?_; try simp only [ex_seq, ex_block])
              | (refine tr_label ?_; try simp only [ex_seq, ex_block])
              | (refine tr_exit ?_; try simp only [ex_seq_exit, ex_block_exit, Nat.reduceEqDiff, if_true, if_false, ex_seq, ex_block, reduceCtorEq, ↓reduceIte])
              | (refine tr_ret ?_; try simp only [ex_seq_ret, ex_block_ret]))
          refine (hQ _ _ [iA (n : Nat), iA 0] ?_ rfl rfl).2 <;> simp only [go_sem, List.getElem?_toArray, str_beq, reduceCtorEq, Nat.reduceEqDiff, Nat.reduceLT, Nat.reduceLeDiff, Nat.reduceAdd, Nat.reduceMul, Nat.reduceSub, Nat.reduceBEq, ↓reduceIte, bne_self_eq_false, Bool.and_false, Bool.false_and, Bool.true_or, Bool.false_or, Try.f10]
        · cases hf
  · refine ⟨c1, .lsl h 0 E.length 2, mb, F, N, s1, [h], ?_, ?_, ?_, ?_, ?_, hS, hnd⟩
    · rw [setB_ne hbS.1]; exact hb
    · rcases hF with hF | ⟨h', L', q1, q2, q3, q4⟩
      · exact Or.inl hF
      · refine Or.inr ⟨h', L', q1, q2, ?_, q4⟩
        rw [setB_ne (fun e => hbS.2.2 (by rw [q2, e]; simp))]
        exact q3
    · refine Or.inr ⟨h, L.set n ((L[n]).1, (L[n]).2 + 1), by rw [List.length_set], rfl, setB_self hhl _, ?_⟩
      rw [getD_at hn, ← hg, ← hg1]
      exact take_set hEL hn _
    · rw [setB_ne hbS.2.1]; exact hN
    · exact hI.again hu hse (by omega)
end Go.Proofs.Ytlhlcfijpdknfaa

/-
  Chapter 2: Take of a text that is new.
-/
set_option linter.unusedSimpArgs false
set_option linter.unusedVariables false
namespace Go.Proofs.Ytlhlcfijpdknfaa
open Go.Vs Go.Vs.Ab Go.Vs.Hp Go.Vs.Tb
set_option maxRecDepth 100000
set_option maxHeartbeats 4000000

theorem len_row {m : Mm} {c : AV} {F : List Int} {s : List Nat} (h : RowAt m inC 1 c F s) : GivesW Try.prog 29 [c] m (iA (F.length : Nat)) m := by
  rcases h with ⟨rfl, rfl, _⟩ | ⟨h, L, rfl, _⟩
  · exact lenN_gives m
  · exact len_gives m h _
theorem build1E : aBuildSlice Try.prog 61 1 [(0, .agg [.v (.string ⟨#[]⟩), .v (.int .i64 0)])] = some [.v (.string ⟨#[]⟩), .v (.int .i64 0)] := build1 Try.underlying61 sz65 ze65 (by decide) (by decide) (by decide) rfl rfl
theorem info_en : info3 Try.prog 65 = some (2, 24) := by kernel_rfl
theorem nbeq_no (a b : Nat) : (Nat.beq a b = false) = ¬ (a = b) := by
  apply propext
  constructor
  · intro h e
    subst e
    rw [Nat.beq_refl] at h
    cases h
  · intro h
    cases h2 : Nat.beq a b with
    | false => rfl
    | true => exact absurd (Nat.eq_of_beq_eq_true h2) h
attribute [go_sem] build1E nbeq_no not_false_eq_true
theorem slV_row {m : Mm} {T : Type} {enc : T → List CV} {size : Nat} {c : AV} {l : List T} {s : List Nat} (h : RowAt m enc size c l s) : (∃ cs, slV c = some (l.length, cs) ∧ lsV c = none) ∨ ∃ b, lsV c = some (b, 0, l.length, size) ∧ slV c = none := by
  rcases h with ⟨rfl, rfl, _⟩ | ⟨b, L, rfl, _⟩
  · exact Or.inl ⟨[], rfl, rfl⟩
  · exact Or.inr ⟨b, rfl, rfl⟩

theorem nmI_app (N : List (ByteArray × Nat)) (s : ByteArray) (n : Nat) : nmI N ++ [(.string s, .int .i64 (n : Nat))] = nmI (N ++ [(s, n)]) := by simp [nmI, encE]
theorem Kp.put {m m1 : Mm} {S S' : List Nat} (h : Kp m m1 S S') {i : Nat} (hi : i ∈ S') {nb : Blk} (hl : lows m1.hp.length m1.hw.length nb.cs = true) : Kp m (setB m1 i nb) S S' := h.trans (Kp.stB h.wf hi hl)

theorem take_push {m : Mm} {b : Nat} {E : List Ent} {S : List Nat} {c1 c2 : AV} {mb : Nat} {F : List Int} {N : List (ByteArray × Nat)} {s1 s2 : List Nat} (hb : m.hp[b]? = some ⟨false, [c1, c2, .mapp mb]⟩) (hF : RowAt m inC 1 c1 F s1) (hE : RowAt m enC 2 c2 E s2) (hN : m.hp[mb]? = some ⟨false, [.ent (nmI N)]⟩) (hI : Inv F E N) (hS : S = b :: mb :: (s1 ++ s2)) (hnd : S.Nodup)
    (hW : Wf m) {s : ByteArray} (hs : ¬ (s.size < 1 ∨ 255 < s.size)) (hf : findS E s = none) (hM : E.length ≤ 1000) (h0 : F = []) :
    ∃ m' S', GivesW Try.prog 10 [.ptr b 0, sA s] m (.tup [iA (E.length : Nat), iA 0]) m' ∧ TabM m' b (E ++ [(s, 1)]) S' ∧ Kp m m' S S' := by
  have h1 : decide (s = ⟨#[]⟩) = false := decide_eq_false (fun e => hs (Or.inl ((emp_size s).1 e)))
  have h2 : decide ((255 : Int) < (s.size : Nat)) = false := decide_eq_false (by omega)
  have hse : s ≠ emp := fun e => hs (Or.inl ((emp_size s).1 e))
  have p1 := hF.plain1
  have hlk := nmI_none und_str ((hI.find_none s).2 hf)
  have hNl : N.length ≤ 1000 := by rw [hI.len]; exact Nat.le_trans (liveN_le E) hM
  have h3 : decide ((65536 : Int) ≤ (N.length : Nat)) = false := decide_eq_false (by omega)
  have cl := len_row hF
  have h4 : decide ((0 : Int) < (F.length : Nat)) = false := decide_eq_false (by rw [h0]; simp)
  obtain ⟨m1, ha, hn, hlen, hk⟩ := row_app (e := 65) en_hk (by decide) Try.underlying61 info_en hE hW (emp, 0) (ex := true) (by omega) (by unfold maxLen; omega)
  have ha' : aAppendL Try.prog m 61 c2 (.c (.sl true 1 [.v (.string ⟨#[]⟩), .v (.int .i64 0)])) = some (.lsl m.hp.length 0 (E.length + 1) 2, m1) := ha
  have hbl := (List.getElem?_eq_some_iff.1 hb).1
  have hmbl := (List.getElem?_eq_some_iff.1 hN).1
  generalize hh : m.hp.length = h at *
  subst hS
  have hbm : b ≠ mb ∧ b ∉ s1 ∧ b ∉ s2 ∧ mb ∉ s1 ∧ mb ∉ s2 ∧ ∀ i ∈ s1, i ∉ s2 := by
    simp only [List.nodup_cons, List.mem_cons, List.mem_append, not_or, List.nodup_append] at hnd
    exact ⟨hnd.1.1, hnd.1.2.1, hnd.1.2.2, hnd.2.1.1, hnd.2.1.2, fun i hi h2 => hnd.2.2.2.2 i hi i h2 rfl⟩
  have hb1 : m1.hp[b]? = some ⟨false, [c1, c2, .mapp mb]⟩ := hk.old b _ hbm.2.2.1 hb
  have hN1 : m1.hp[mb]? = some ⟨false, [.ent (nmI N)]⟩ := hk.old mb _ hbm.2.2.2.2.1 hN
  have hb1l := (List.getElem?_eq_some_iff.1 hb1).1
  have hm1l := (List.getElem?_eq_some_iff.1 hN1).1
  have hhl := (List.getElem?_eq_some_iff.1 hn).1
  -- the memory behind the append's store, the entry's, the map's
  have e2 := en_set (L := E ++ [(emp, 0)]) (k := E.length) (by simp) (s, 1)
  have e2' : List.take (E.length * 2) (blC enC (E ++ [(emp, 0)])) ++ [sA s, iA 1] ++ List.drop (E.length * 2 + 2) (blC enC (E ++ [(emp, 0)])) = blC enC (E ++ [(s, 1)]) := by
    have : (E ++ [(emp, 0)]).set E.length (s, 1) = E ++ [(s, 1)] := by simp
    rw [this] at e2
    exact e2
  have i1 := en_idx (b := h) (n := E.length + 1) (i := E.length) (by omega)
  have f1 := en_fit0 (L := E ++ [(emp, 0)]) (i := E.length) (by simp)
  have gb2 := setB_self hb1l (⟨false, [c1, .lsl h 0 (E.length + 1) 2, .mapp mb]⟩ : Blk)
  have gh2 : (setB m1 b ⟨false, [c1, .lsl h 0 (E.length + 1) 2, .mapp mb]⟩).hp[h]? = some ⟨false, blC enC (E ++ [(emp, 0)])⟩ := by rw [setB_ne (by omega)]; exact hn
  have hhl2 := (List.getElem?_eq_some_iff.1 gh2).1
  have gN3 : (setB (setB m1 b ⟨false, [c1, .lsl h 0 (E.length + 1) 2, .mapp mb]⟩) h ⟨false, blC enC (E ++ [(s, 1)])⟩).hp[mb]? = some ⟨false, [.ent (nmI N)]⟩ := by rw [setB_ne (by omega), setB_ne hbm.1]; exact hN1
  have gb3 : (setB (setB m1 b ⟨false, [c1, .lsl h 0 (E.length + 1) 2, .mapp mb]⟩) h ⟨false, blC enC (E ++ [(s, 1)])⟩).hp[b]? = some ⟨false, [c1, .lsl h 0 (E.length + 1) 2, .mapp mb]⟩ := by rw [setB_ne (by omega)]; exact gb2
  have gN2 : (setB m1 b ⟨false, [c1, .lsl h 0 (E.length + 1) 2, .mapp mb]⟩).hp[mb]? = some ⟨false, [.ent (nmI N)]⟩ := by rw [setB_ne hbm.1]; exact hN1
  have sl2 : ∀ l, slV c2 = some l → True := fun _ _ => trivial
  refine ⟨setB (setB (setB m1 b ⟨false, [c1, .lsl h 0 (E.length + 1) 2, .mapp mb]⟩) h ⟨false, blC enC (E ++ [(s, 1)])⟩) mb ⟨false, [.ent (nmI (N ++ [(s, E.length)]))]⟩, b :: mb :: (s1 ++ [h]), ?_, ?_, ?_⟩
  · rcases slV_row hE with ⟨cs, hv, hv2⟩ | ⟨b', hv, hv2⟩
    · refine givesW_of' Try.func10 rfl (by kernel_rfl) Try.ntmps10 rfl rfl fun Q hQ => ?_
      repeat (first
          | refine tr_seq_k fun _ _ => ?_
          | (refine tr_region ?_; simp only [go_sem, List.getElem?_toArray, str_beq, reduceCtorEq, Nat.reduceEqDiff, Nat.reduceLT, Nat.reduceLeDiff, Nat.reduceAdd, Nat.reduceMul, Nat.reduceSub, Nat.reduceBEq, ↓reduceIte, bne_self_eq_false, Bool.and_false, Bool.false_and, Bool.true_or, Bool.false_or, h1, h2])
          | (refine tr_drawS (id := 15) follows 14 [.op 14, .put 15] (by kernel_rfl) ?_; simp only [go_sem, List.getElem?_toArray, str_beq, reduceCtorEq, Nat.reduceEqDiff, Nat.reduceLT, Nat.reduceLeDiff, Nat.reduceAdd, Nat.reduceMul, Nat.reduceSub, Nat.reduceBEq, ↓reduceIte, bne_self_eq_false, Bool.and_false, Bool.false_and, Bool.true_or, Bool.false_or, h1, h2])
          | refine k_of (by assumption) ?_
          | refine tr_block ?_
          | refine tr_scope ?_
          | (refine tr_skip ?_; try simp only [ex_seq, ex_block])
          | (refine tr_label ?_; try simp only [ex_seq, ex_block])
          | (refine tr_exit ?_; try simp only [ex_seq_exit, ex_block_exit, Nat.reduceEqDiff, if_true, if_false, ex_seq, ex_block, reduceCtorEq, ↓reduceIte])
          | (refine tr_ret ?_; try simp only [ex_seq_ret, ex_block_ret]))
      refine tr_cond rfl (fun ht => ?_) (fun hf => ?_)
      · cases ht
      · repeat (first
            | refine tr_seq_k fun _ _ => ?_
            | (refine tr_region ?_; simp only [go_sem, List.getElem?_toArray, str_beq, reduceCtorEq, Nat.reduceEqDiff, Nat.reduceLT, Nat.reduceLeDiff, Nat.reduceAdd, Nat.reduceMul, Nat.reduceSub, Nat.reduceBEq, ↓reduceIte, bne_self_eq_false, Bool.and_false, Bool.false_and, Bool.true_or, Bool.false_or, h1, h2])
            | (refine tr_drawS (id := 15) follows 14 [.op 14, .put 15] (by kernel_rfl) ?_; simp only [go_sem, List.getElem?_toArray, str_beq, reduceCtorEq, Nat.reduceEqDiff, Nat.reduceLT, Nat.reduceLeDiff, Nat.reduceAdd, Nat.reduceMul, Nat.reduceSub, Nat.reduceBEq, ↓reduceIte, bne_self_eq_false, Bool.and_false, Bool.false_and, Bool.true_or, Bool.false_or, h1, h2])
            | refine k_of (by assumption) ?_
            | refine tr_block ?_
            | refine tr_scope ?_
            | (refine tr_skip ?_; try simp only [ex_seq, ex_block])
            | (refine tr_label ?_; try simp only [ex_seq, ex_block])
            | (refine tr_exit ?_; try simp only [ex_seq_exit, ex_block_exit, Nat.reduceEqDiff, if_true, if_false, ex_seq, ex_block, reduceCtorEq, ↓reduceIte])
            | (refine tr_ret ?_; try simp only [ex_seq_ret, ex_block_ret]))
        refine tr_cond rfl (fun ht => ?_) (fun hf => ?_)
        · cases ht
        · repeat (first
              | refine tr_seq_k fun _ _ => ?_
              | (refine tr_region ?_; simp only [go_sem, List.getElem?_toArray, str_beq, reduceCtorEq, Nat.reduceEqDiff, Nat.reduceLT, Nat.reduceLeDiff, Nat.reduceAdd, Nat.reduceMul, Nat.reduceSub, Nat.reduceBEq, ↓reduceIte, bne_self_eq_false, Bool.and_false, Bool.false_and, Bool.true_or, Bool.false_or, hb, p1, hN, hlk])
              | (refine tr_drawS (id := 15) follows 14 [.op 14, .put 15] (by kernel_rfl) ?_; simp only [go_sem, List.getElem?_toArray, str_beq, reduceCtorEq, Nat.reduceEqDiff, Nat.reduceLT, Nat.reduceLeDiff, Nat.reduceAdd, Nat.reduceMul, Nat.reduceSub, Nat.reduceBEq, ↓reduceIte, bne_self_eq_false, Bool.and_false, Bool.false_and, Bool.true_or, Bool.false_or, hb, p1, hN, hlk])
              | refine k_of (by assumption) ?_
              | refine tr_block ?_
              | refine tr_scope ?_
              | (refine tr_skip ?_; try simp only [ex_seq, ex_block])
              | (refine tr_label ?_; try simp only [ex_seq, ex_block])
              | (refine tr_exit ?_; try simp only [ex_seq_exit, ex_block_exit, Nat.reduceEqDiff, if_true, if_false, ex_seq, ex_block, reduceCtorEq, ↓reduceIte])
              | (refine tr_ret ?_; try simp only [ex_seq_ret, ex_block_ret]))
          refine tr_cond rfl (fun ht => ?_) (fun hf => ?_)
          · cases ht
          · repeat (first
                | refine tr_seq_k fun _ _ => ?_
                | (refine tr_region ?_; simp only [go_sem, List.getElem?_toArray, str_beq, reduceCtorEq, Nat.reduceEqDiff, Nat.reduceLT, Nat.reduceLeDiff, Nat.reduceAdd, Nat.reduceMul, Nat.reduceSub, Nat.reduceBEq, ↓reduceIte, bne_self_eq_false, Bool.and_false, Bool.false_and, Bool.true_or, Bool.false_or, hb, p1, hN, nmI_len, h3])
                | (refine tr_drawS (id := 15) follows 14 [.op 14, .put 15] (by kernel_rfl) ?_; simp only [go_sem, List.getElem?_toArray, str_beq, reduceCtorEq, Nat.reduceEqDiff, Nat.reduceLT, Nat.reduceLeDiff, Nat.reduceAdd, Nat.reduceMul, Nat.reduceSub, Nat.reduceBEq, ↓reduceIte, bne_self_eq_false, Bool.and_false, Bool.false_and, Bool.true_or, Bool.false_or, hb, p1, hN, nmI_len, h3])
                | refine k_of (by assumption) ?_
                | refine tr_block ?_
                | refine tr_scope ?_
                | (refine tr_skip ?_; try simp only [ex_seq, ex_block])
                | (refine tr_label ?_; try simp only [ex_seq, ex_block])
                | (refine tr_exit ?_; try simp only [ex_seq_exit, ex_block_exit, Nat.reduceEqDiff, if_true, if_false, ex_seq, ex_block, reduceCtorEq, ↓reduceIte])
                | (refine tr_ret ?_; try simp only [ex_seq_ret, ex_block_ret]))
            refine tr_cond rfl (fun ht => ?_) (fun hf => ?_)
            · cases ht
            · repeat (first
                  | refine tr_seq_k fun _ _ => ?_
                  | (refine tr_region ?_; simp only [go_sem, List.getElem?_toArray, str_beq, reduceCtorEq, Nat.reduceEqDiff, Nat.reduceLT, Nat.reduceLeDiff, Nat.reduceAdd, Nat.reduceMul, Nat.reduceSub, Nat.reduceBEq, ↓reduceIte, bne_self_eq_false, Bool.and_false, Bool.false_and, Bool.true_or, Bool.false_or, hb, p1, h4, hv, hv2])
                  | (refine tr_drawS (id := 15) follows 14 [.op 14, .put 15] (by kernel_rfl) ?_; simp only [go_sem, List.getElem?_toArray, str_beq, reduceCtorEq, Nat.reduceEqDiff, Nat.reduceLT, Nat.reduceLeDiff, Nat.reduceAdd, Nat.reduceMul, Nat.reduceSub, Nat.reduceBEq, ↓reduceIte, bne_self_eq_false, Bool.and_false, Bool.false_and, Bool.true_or, Bool.false_or, hb, p1, h4, hv, hv2])
                  | (refine call_givesW (cl) ?_; (try dsimp only); (try simp only [go_sem, List.getElem?_toArray, str_beq, reduceCtorEq, Nat.reduceEqDiff, Nat.reduceLT, Nat.reduceLeDiff, Nat.reduceAdd, Nat.reduceMul, Nat.reduceSub, Nat.reduceBEq, ↓reduceIte, bne_self_eq_false, Bool.and_false, Bool.false_and, Bool.true_or, Bool.false_or, hb, p1, h4, hv, hv2]))
                  | refine k_of (by assumption) ?_
                  | refine tr_block ?_
                  | refine tr_scope ?_
                  | (refine tr_skip ?_; try simp only [ex_seq, ex_block])
                  | (refine tr_label ?_; try simp only [ex_seq, ex_block])
                  | (refine tr_exit ?_; try simp only [ex_seq_exit, ex_block_exit, Nat.reduceEqDiff, if_true, if_false, ex_seq, ex_block, reduceCtorEq, ↓reduceIte])
                  | (refine tr_ret ?_; try simp only [ex_seq_ret, ex_block_ret]))
              refine tr_cond rfl (fun ht => ?_) (fun hf => ?_)
              · cases ht
              · repeat (first
                    | refine tr_seq_k fun _ _ => ?_
                    | (refine tr_region ?_; simp only [go_sem, List.getElem?_toArray, str_beq, reduceCtorEq, Nat.reduceEqDiff, Nat.reduceLT, Nat.reduceLeDiff, Nat.reduceAdd, Nat.reduceMul, Nat.reduceSub, Nat.reduceBEq, ↓reduceIte, bne_self_eq_false, Bool.and_false, Bool.false_and, Bool.true_or, Bool.false_or, hb, p1, ha', hb1, setB_eq, gb2, gh2, i1, f1, e2', gN2, gb3, gN3, mPut, hlk, nmI_app])
                    | (refine tr_drawS (id := 15) follows 14 [.op 14, .put 15] (by kernel_rfl) ?_; simp only [go_sem, List.getElem?_toArray, str_beq, reduceCtorEq, Nat.reduceEqDiff, Nat.reduceLT, Nat.reduceLeDiff, Nat.reduceAdd, Nat.reduceMul, Nat.reduceSub, Nat.reduceBEq, ↓reduceIte, bne_self_eq_false, Bool.and_false, Bool.false_and, Bool.true_or, Bool.false_or, hb, p1, ha', hb1, setB_eq, gb2, gh2, i1, f1, e2', gN2, gb3, gN3, mPut, hlk, nmI_app])
                    | refine k_of (by assumption) ?_
                    | refine tr_block ?_
                    | refine tr_scope ?_
                    | (refine tr_skip ?_; try simp only [ex_seq, ex_block])
                    | (refine tr_label ?_; try simp only [ex_seq, ex_block])
                    | (refine tr_exit ?_; try simp only [ex_seq_exit, ex_block_exit, Nat.reduceEqDiff, if_true, if_false, ex_seq, ex_block, reduceCtorEq, ↓reduceIte])
                    | (refine tr_ret ?_; try simp only [ex_seq_ret, ex_block_ret]))
                refine (hQ _ _ [iA (E.length : Nat), iA 0] ?_ rfl rfl).2 <;> simp only [go_sem, List.getElem?_toArray, str_beq, reduceCtorEq, Nat.reduceEqDiff, Nat.reduceLT, Nat.reduceLeDiff, Nat.reduceAdd, Nat.reduceMul, Nat.reduceSub, Nat.reduceBEq, ↓reduceIte, bne_self_eq_false, Bool.and_false, Bool.false_and, Bool.true_or, Bool.false_or, Try.f10]
    · refine givesW_of' Try.func10 rfl (by kernel_rfl) Try.ntmps10 rfl rfl fun Q hQ => ?_
      repeat (first
          | refine tr_seq_k fun _ _ => ?_
          | (refine tr_region ?_; simp only [go_sem, List.getElem?_toArray, str_beq, reduceCtorEq, Nat.reduceEqDiff, Nat.reduceLT, Nat.reduceLeDiff, Nat.reduceAdd, Nat.reduceMul, Nat.reduceSub, Nat.reduceBEq, ↓reduceIte, bne_self_eq_false, Bool.and_false, Bool.false_and, Bool.true_or, Bool.false_or, h1, h2])
          | (refine tr_drawS (id := 15) follows 14 [.op 14, .put 15] (by kernel_rfl) ?_; simp only [go_sem, List.getElem?_toArray, str_beq, reduceCtorEq, Nat.reduceEqDiff, Nat.reduceLT, Nat.reduceLeDiff, Nat.reduceAdd, Nat.reduceMul, Nat.reduceSub, Nat.reduceBEq, ↓reduceIte, bne_self_eq_false, Bool.and_false, Bool.false_and, Bool.true_or, Bool.false_or, h1, h2])
          | refine k_of (by assumption) ?_
          | refine tr_block ?_
          | refine tr_scope ?_
          | (refine tr_skip ?_; try simp only [ex_seq, ex_block])
          | (refine tr_label ?_; try simp only [ex_seq, ex_block])
          | (refine tr_exit ?_; try simp only [ex_seq_exit, ex_block_exit, Nat.reduceEqDiff, if_true, if_false, ex_seq, ex_block, reduceCtorEq, ↓reduceIte])
          | (refine tr_ret ?_; try simp only [ex_seq_ret, ex_block_ret]))
      refine tr_cond rfl (fun ht => ?_) (fun hf => ?_)
      · cases ht
      · repeat (first
            | refine tr_seq_k fun _ _ => ?_
            | (refine tr_region ?_; simp only [go_sem, List.getElem?_toArray, str_beq, reduceCtorEq, Nat.reduceEqDiff, Nat.reduceLT, Nat.reduceLeDiff, Nat.reduceAdd, Nat.reduceMul, Nat.reduceSub, Nat.reduceBEq, ↓reduceIte, bne_self_eq_false, Bool.and_false, Bool.false_and, Bool.true_or, Bool.false_or, h1, h2])
            | (refine tr_drawS (id := 15) follows 14 [.op 14, .put 15] (by kernel_rfl) ?_; simp only [go_sem, List.getElem?_toArray, str_beq, reduceCtorEq, Nat.reduceEqDiff, Nat.reduceLT, Nat.reduceLeDiff, Nat.reduceAdd, Nat.reduceMul, Nat.reduceSub, Nat.reduceBEq, ↓reduceIte, bne_self_eq_false, Bool.and_false, Bool.false_and, Bool.true_or, Bool.false_or, h1, h2])
            | refine k_of (by assumption) ?_
            | refine tr_block ?_
            | refine tr_scope ?_
            | (refine tr_skip ?_; try simp only [ex_seq, ex_block])
            | (refine tr_label ?_; try simp only [ex_seq, ex_block])
            | (refine tr_exit ?_; try simp only [ex_seq_exit, ex_block_exit, Nat.reduceEqDiff, if_true, if_false, ex_seq, ex_block, reduceCtorEq, ↓reduceIte])
            | (refine tr_ret ?_; try simp only [ex_seq_ret, ex_block_ret]))
        refine tr_cond rfl (fun ht => ?_) (fun hf => ?_)
        · cases ht
        · repeat (first
              | refine tr_seq_k fun _ _ => ?_
              | (refine tr_region ?_; simp only [go_sem, List.getElem?_toArray, str_beq, reduceCtorEq, Nat.reduceEqDiff, Nat.reduceLT, Nat.reduceLeDiff, Nat.reduceAdd, Nat.reduceMul, Nat.reduceSub, Nat.reduceBEq, ↓reduceIte, bne_self_eq_false, Bool.and_false, Bool.false_and, Bool.true_or, Bool.false_or, hb, p1, hN, hlk])
              | (refine tr_drawS (id := 15) follows 14 [.op 14, .put 15] (by kernel_rfl) ?_; simp only [go_sem, List.getElem?_toArray, str_beq, reduceCtorEq, Nat.reduceEqDiff, Nat.reduceLT, Nat.reduceLeDiff, Nat.reduceAdd, Nat.reduceMul, Nat.reduceSub, Nat.reduceBEq, ↓reduceIte, bne_self_eq_false, Bool.and_false, Bool.false_and, Bool.true_or, Bool.false_or, hb, p1, hN, hlk])
              | refine k_of (by assumption) ?_
              | refine tr_block ?_
              | refine tr_scope ?_
              | (refine tr_skip ?_; try simp only [ex_seq, ex_block])
              | (refine tr_label ?_; try simp only [ex_seq, ex_block])
              | (refine tr_exit ?_; try simp only [ex_seq_exit, ex_block_exit, Nat.reduceEqDiff, if_true, if_false, ex_seq, ex_block, reduceCtorEq, ↓reduceIte])
              | (refine tr_ret ?_; try simp only [ex_seq_ret, ex_block_ret]))
          refine tr_cond rfl (fun ht => ?_) (fun hf => ?_)
          · cases ht
          · repeat (first
                | refine tr_seq_k fun _ _ => ?_
                | (refine tr_region ?_; simp only [go_sem, List.getElem?_toArray, str_beq, reduceCtorEq, Nat.reduceEqDiff, Nat.reduceLT, Nat.reduceLeDiff, Nat.reduceAdd, Nat.reduceMul, Nat.reduceSub, Nat.reduceBEq, ↓reduceIte, bne_self_eq_false, Bool.and_false, Bool.false_and, Bool.true_or, Bool.false_or, hb, p1, hN, nmI_len, h3])
                | (refine tr_drawS (id := 15) follows 14 [.op 14, .put 15] (by kernel_rfl) ?_; simp only [go_sem, List.getElem?_toArray, str_beq, reduceCtorEq, Nat.reduceEqDiff, Nat.reduceLT, Nat.reduceLeDiff, Nat.reduceAdd, Nat.reduceMul, Nat.reduceSub, Nat.reduceBEq, ↓reduceIte, bne_self_eq_false, Bool.and_false, Bool.false_and, Bool.true_or, Bool.false_or, hb, p1, hN, nmI_len, h3])
                | refine k_of (by assumption) ?_
                | refine tr_block ?_
                | refine tr_scope ?_
                | (refine tr_skip ?_; try simp only [ex_seq, ex_block])
                | (refine tr_label ?_; try simp only [ex_seq, ex_block])
                | (refine tr_exit ?_; try simp only [ex_seq_exit, ex_block_exit, Nat.reduceEqDiff, if_true, if_false, ex_seq, ex_block, reduceCtorEq, ↓reduceIte])
                | (refine tr_ret ?_; try simp only [ex_seq_ret, ex_block_ret]))
            refine tr_cond rfl (fun ht => ?_) (fun hf => ?_)
            · cases ht
            · repeat (first
                  | refine tr_seq_k fun _ _ => ?_
                  | (refine tr_region ?_; simp only [go_sem, List.getElem?_toArray, str_beq, reduceCtorEq, Nat.reduceEqDiff, Nat.reduceLT, Nat.reduceLeDiff, Nat.reduceAdd, Nat.reduceMul, Nat.reduceSub, Nat.reduceBEq, ↓reduceIte, bne_self_eq_false, Bool.and_false, Bool.false_and, Bool.true_or, Bool.false_or, hb, p1, h4, hv, hv2])
                  | (refine tr_drawS (id := 15) follows 14 [.op 14, .put 15] (by kernel_rfl) ?_; simp only [go_sem, List.getElem?_toArray, str_beq, reduceCtorEq, Nat.reduceEqDiff, Nat.reduceLT, Nat.reduceLeDiff, Nat.reduceAdd, Nat.reduceMul, Nat.reduceSub, Nat.reduceBEq, ↓reduceIte, bne_self_eq_false, Bool.and_false, Bool.false_and, Bool.true_or, Bool.false_or, hb, p1, h4, hv, hv2])
                  | (refine call_givesW (cl) ?_; (try dsimp only); (try simp only [go_sem, List.getElem?_toArray, str_beq, reduceCtorEq, Nat.reduceEqDiff, Nat.reduceLT, Nat.reduceLeDiff, Nat.reduceAdd, Nat.reduceMul, Nat.reduceSub, Nat.reduceBEq, ↓reduceIte, bne_self_eq_false, Bool.and_false, Bool.false_and, Bool.true_or, Bool.false_or, hb, p1, h4, hv, hv2]))
                  | refine k_of (by assumption) ?_
                  | refine tr_block ?_
                  | refine tr_scope ?_
                  | (refine tr_skip ?_; try simp only [ex_seq, ex_block])
                  | (refine tr_label ?_; try simp only [ex_seq, ex_block])
                  | (refine tr_exit ?_; try simp only [ex_seq_exit, ex_block_exit, Nat.reduceEqDiff, if_true, if_false, ex_seq, ex_block, reduceCtorEq, ↓reduceIte])
                  | (refine tr_ret ?_; try simp only [ex_seq_ret, ex_block_ret]))
              refine tr_cond rfl (fun ht => ?_) (fun hf => ?_)
              · cases ht
              · repeat (first
                    | refine tr_seq_k fun _ _ => ?_
                    | (refine tr_region ?_; simp only [go_sem, List.getElem?_toArray, str_beq, reduceCtorEq, Nat.reduceEqDiff, Nat.reduceLT, Nat.reduceLeDiff, Nat.reduceAdd, Nat.reduceMul, Nat.reduceSub, Nat.reduceBEq, ↓reduceIte, bne_self_eq_false, Bool.and_false, Bool.false_and, Bool.true_or, Bool.false_or, hb, p1, ha', hb1, setB_eq, gb2, gh2, i1, f1, e2', gN2, gb3, gN3, mPut, hlk, nmI_app])
                    | (refine tr_drawS (id := 15) follows 14 [.op 14, .put 15] (by kernel_rfl) ?_; simp only [go_sem, List.getElem?_toArray, str_beq, reduceCtorEq, Nat.reduceEqDiff, Nat.reduceLT, Nat.reduceLeDiff, Nat.reduceAdd, Nat.reduceMul, Nat.reduceSub, Nat.reduceBEq, ↓reduceIte, bne_self_eq_false, Bool.and_false, Bool.false_and, Bool.true_or, Bool.false_or, hb, p1, ha', hb1, setB_eq, gb2, gh2, i1, f1, e2', gN2, gb3, gN3, mPut, hlk, nmI_app])
                    | refine k_of (by assumption) ?_
                    | refine tr_block ?_
                    | refine tr_scope ?_
                    | (refine tr_skip ?_; try simp only [ex_seq, ex_block])
                    | (refine tr_label ?_; try simp only [ex_seq, ex_block])
                    | (refine tr_exit ?_; try simp only [ex_seq_exit, ex_block_exit, Nat.reduceEqDiff, if_true, if_false, ex_seq, ex_block, reduceCtorEq, ↓reduceIte])
                    | (refine tr_ret ?_; try simp only [ex_seq_ret, ex_block_ret]))
                refine (hQ _ _ [iA (E.length : Nat), iA 0] ?_ rfl rfl).2 <;> simp only [go_sem, List.getElem?_toArray, str_beq, reduceCtorEq, Nat.reduceEqDiff, Nat.reduceLT, Nat.reduceLeDiff, Nat.reduceAdd, Nat.reduceMul, Nat.reduceSub, Nat.reduceBEq, ↓reduceIte, bne_self_eq_false, Bool.and_false, Bool.false_and, Bool.true_or, Bool.false_or, Try.f10]
  · refine ⟨c1, .lsl h 0 (E.length + 1) 2, mb, F, N ++ [(s, E.length)], s1, [h], ?_, ?_, ?_, ?_, ?_, rfl, ?_⟩
    · rw [setB_ne (Ne.symm hbm.1)]; exact gb3
    · have hF1 : RowAt m1 inC 1 c1 F s1 := hF.keep hk (fun i hi h2 => hbm.2.2.2.2.2 i hi h2)
      rcases hF1 with hF1 | ⟨h', L', q1, q2, q3, q4⟩
      · exact Or.inl hF1
      · refine Or.inr ⟨h', L', q1, q2, ?_, q4⟩
        subst q2
        have t1 : b ≠ h' := fun e => hbm.2.1 (by simp [e])
        have t2 : mb ≠ h' := fun e => hbm.2.2.2.1 (by simp [e])
        have t3 : h ≠ h' := fun e => by
          rcases hF with ⟨_, _, q5⟩ | ⟨_, _, _, q5, q6, _⟩
          · cases q5
          · injection q5 with q5
            subst q5
            have := (List.getElem?_eq_some_iff.1 q6).1
            omega
        rw [setB_ne t2, setB_ne t3, setB_ne t1]
        exact q3
    · refine Or.inr ⟨h, E ++ [(s, 1)], by simp, rfl, ?_, (List.take_of_length_le (Nat.le_refl _)).symm⟩
      rw [setB_ne (by omega), setB_self hhl2]
    · have := (List.getElem?_eq_some_iff.1 gN3).1
      exact setB_self this _
    · have := hI.push h0 hse hf
      rw [h0]
      exact this
    · have hn1 : ∀ i ∈ s1, i ≠ h := fun i hi e => by
        rcases hF with ⟨_, _, q5⟩ | ⟨_, _, _, q5, q6, _⟩
        · rw [q5] at hi; cases hi
        · rw [q5] at hi
          have := (List.getElem?_eq_some_iff.1 q6).1
          simp at hi
          omega
      simp only [List.nodup_cons, List.mem_cons, List.mem_append, not_or, List.nodup_append] at hnd ⊢
      refine ⟨⟨hnd.1.1, hnd.1.2.1, by omega, by simp⟩, ⟨hnd.2.1.1, by omega, by simp⟩, hnd.2.2.1, by simp, fun x hx y hy => ?_⟩
      rw [hy.resolve_right (by simp)]
      exact hn1 x hx
  · have k0 : Kp m m1 (b :: mb :: (s1 ++ s2)) (b :: mb :: (s1 ++ [h])) := hk.mono (fun i hi => by simp [hi]) (fun i hi => by
      simp only [List.mem_cons, List.mem_append, List.not_mem_nil, or_false] at hi ⊢
      rcases hi with hi | hi | hi | hi
      · exact Or.inr (Or.inl hi)
      · exact Or.inr (Or.inr (Or.inl hi))
      · exact Or.inr (Or.inr (Or.inr (Or.inl hi)))
      · exact Or.inl hi)
    refine ((k0.put (i := b) (by simp) ?_).put (i := h) (by simp) ?_).put (i := mb) (by simp) ?_
    · simp only [lows, low, Bool.and_true, Bool.and_eq_true, Nat.blt_eq]
      exact ⟨low_mono (by omega) (Nat.le_refl _) (hF.low m1.hw.length), hhl, hm1l⟩
    · exact lows_blC
    · rfl
end Go.Proofs.Ytlhlcfijpdknfaa

/-
  Chapter 2: Take of a text that is new, with a number that was free; Take in all.
-/
set_option linter.unusedSimpArgs false
set_option linter.unusedVariables false
namespace Go.Proofs.Ytlhlcfijpdknfaa
open Go.Vs Go.Vs.Ab Go.Vs.Hp Go.Vs.Tb
set_option maxRecDepth 100000
set_option maxHeartbeats 4000000

theorem take_pop {m : Mm} {b : Nat} {E : List Ent} {S : List Nat} {c1 c2 : AV} {mb : Nat} {F : List Int} {N : List (ByteArray × Nat)} {s1 s2 : List Nat} (hb : m.hp[b]? = some ⟨false, [c1, c2, .mapp mb]⟩) (hF : RowAt m inC 1 c1 F s1) (hE : RowAt m enC 2 c2 E s2) (hN : m.hp[mb]? = some ⟨false, [.ent (nmI N)]⟩) (hI : Inv F E N) (hS : S = b :: mb :: (s1 ++ s2)) (hnd : S.Nodup)
    (hW : Wf m) {s : ByteArray} (hs : ¬ (s.size < 1 ∨ 255 < s.size)) (hf : findS E s = none) (hM : E.length ≤ 1000) (hFl : F.length ≤ 1000) (h0 : 0 < F.length) :
    ∃ m', GivesW Try.prog 10 [.ptr b 0, sA s] m (.tup [iA (leastF E : Nat), iA 0]) m' ∧ TabM m' b (E.set (leastF E) (s, 1)) S ∧ Kp m m' S S := by
  have h1 : decide (s = ⟨#[]⟩) = false := decide_eq_false (fun e => hs (Or.inl ((emp_size s).1 e)))
  have h2 : decide ((255 : Int) < (s.size : Nat)) = false := decide_eq_false (by omega)
  have hse : s ≠ emp := fun e => hs (Or.inl ((emp_size s).1 e))
  have p1 := hF.plain1
  have hlk := nmI_none und_str ((hI.find_none s).2 hf)
  have hNl : N.length ≤ 1000 := by rw [hI.len]; exact Nat.le_trans (liveN_le E) hM
  have h3 : decide ((65536 : Int) ≤ (N.length : Nat)) = false := decide_eq_false (by omega)
  have cl := len_row hF
  have h4 : decide ((0 : Int) < (F.length : Nat)) = true := decide_eq_true (by omega)
  obtain ⟨hle0, hln⟩ := hI.least h0
  generalize hn : leastF E = n at *
  rcases hF with ⟨e0, _⟩ | ⟨hF', L, rfl, rfl, hL, hFL⟩
  · rw [e0] at h0; simp at h0
  have hlL : F.length ≤ L.length := by
    have := congrArg List.length hFL
    rw [List.length_take] at this
    omega
  have hge : ∀ i, i < F.length → F.getD i 0 = L.getD i 0 := fun i hi => by
    rw [hFL, List.getD_eq_getElem?_getD, List.getElem?_take, if_pos hi, ← List.getD_eq_getElem?_getD]
  have hHL : Heap L F.length := fun j h5 h6 => by
    rw [← hge _ (by omega), ← hge _ h6]
    exact hI.heap j h5 h6
  obtain ⟨q1, q2, q3, q4⟩ := pop_ok hHL h0 hlL
  subst hS
  obtain ⟨hE', L2, rfl, rfl, hL2, hEL, hkL, hg⟩ := row_get hE hln
  have hnn : b ≠ mb ∧ b ≠ hF' ∧ b ≠ hE' ∧ mb ≠ hF' ∧ mb ≠ hE' ∧ hF' ≠ hE' := by
    simp only [List.cons_append, List.nil_append, List.nodup_cons, List.mem_cons, List.not_mem_nil, or_false, not_or] at hnd
    exact ⟨hnd.1.1, hnd.1.2.1, hnd.1.2.2, hnd.2.1.1, hnd.2.1.2, hnd.2.2.1⟩
  have hbl := (List.getElem?_eq_some_iff.1 hb).1
  have hhl := (List.getElem?_eq_some_iff.1 hL).1
  have hl2 := (List.getElem?_eq_some_iff.1 hL2).1
  have hml := (List.getElem?_eq_some_iff.1 hN).1
  have c5 := hpop hb hL hnn.2.1 hlL q1 h0 (by omega) hW
  rw [q2, ← hge 0 h0, hle0] at c5
  obtain ⟨m1, hm1⟩ : ∃ m1 : Mm, m1 = ⟨(mS m hF' (popN L F.length)).hp.set b ⟨false, [.lsl hF' 0 (F.length - 1) 1, .lsl hE' 0 E.length 2, .mapp mb]⟩, m.hw⟩ := ⟨_, rfl⟩
  rw [← hm1] at c5
  have hm1' : m1 = setB (setB m hF' (inB (popN L F.length))) b ⟨false, [.lsl hF' 0 (F.length - 1) 1, .lsl hE' 0 E.length 2, .mapp mb]⟩ := hm1
  clear hm1
  have k1 : Kp m m1 (b :: mb :: ([hF'] ++ [hE'])) (b :: mb :: ([hF'] ++ [hE'])) := by
    rw [hm1']
    refine ((Kp.refl hW _).put (i := hF') (by simp) lows_blC).put (i := b) (by simp) ?_
    simp only [lows, low, Bool.and_true, Bool.and_eq_true, Nat.blt_eq, setB_len]
    exact ⟨hhl, hl2, hml⟩
  have gb1 : m1.hp[b]? = some ⟨false, [.lsl hF' 0 (F.length - 1) 1, .lsl hE' 0 E.length 2, .mapp mb]⟩ := by rw [hm1']; exact setB_self (by rw [setB_len]; exact hbl) _
  have gF1 : m1.hp[hF']? = some (inB (popN L F.length)) := by rw [hm1', setB_ne hnn.2.1]; exact setB_self hhl _
  have gE1 : m1.hp[hE']? = some ⟨false, blC enC L2⟩ := by rw [hm1', setB_ne hnn.2.2.1, setB_ne hnn.2.2.2.2.2]; exact hL2
  have gN1 : m1.hp[mb]? = some ⟨false, [.ent (nmI N)]⟩ := by rw [hm1', setB_ne hnn.1, setB_ne (Ne.symm hnn.2.2.2.1)]; exact hN
  clear hm1'
  have hbl1 := (List.getElem?_eq_some_iff.1 gb1).1
  have hl21 := (List.getElem?_eq_some_iff.1 gE1).1
  have hml1 := (List.getElem?_eq_some_iff.1 gN1).1
  have i1 := en_idx (b := hE') (n := E.length) hln
  have f1 := en_fit0 hkL
  have e2 := en_set hkL (s, 1)
  have e2' : List.take (n * 2) (blC enC L2) ++ [sA s, iA 1] ++ List.drop (n * 2 + 2) (blC enC L2) = blC enC (L2.set n (s, 1)) := e2
  have gN2 : (setB m1 hE' ⟨false, blC enC (L2.set n (s, 1))⟩).hp[mb]? = some ⟨false, [.ent (nmI N)]⟩ := by rw [setB_ne (Ne.symm hnn.2.2.2.2.1)]; exact gN1
  have k2 : Kp m (setB (setB m1 hE' ⟨false, blC enC (L2.set n (s, 1))⟩) mb ⟨false, [.ent (nmI (N ++ [(s, n)]))]⟩) (b :: mb :: ([hF'] ++ [hE'])) (b :: mb :: ([hF'] ++ [hE'])) :=
    (k1.put (i := hE') (by simp) lows_blC).put (i := mb) (by simp) rfl
  refine ⟨_, ?_, ?_, k2⟩
  · refine givesW_of' Try.func10 rfl (by kernel_rfl) Try.ntmps10 rfl rfl fun Q hQ => ?_
    repeat (first
        | refine tr_seq_k fun _ _ => ?_
        | (refine tr_region ?_; simp only [go_sem, List.getElem?_toArray, str_beq, reduceCtorEq, Nat.reduceEqDiff, Nat.reduceLT, Nat.reduceLeDiff, Nat.reduceAdd, Nat.reduceMul, Nat.reduceSub, Nat.reduceBEq, ↓reduceIte, bne_self_eq_false, Bool.and_false, Bool.false_and, Bool.true_or, Bool.false_or, h1, h2])
        | (refine tr_drawS (id := 15) follows 14 [.op 14, .put 15] (by kernel_rfl) ?_; simp only [go_sem, List.getElem?_toArray, str_beq, reduceCtorEq, Nat.reduceEqDiff, Nat.reduceLT, Nat.reduceLeDiff, Nat.reduceAdd, Nat.reduceMul, Nat.reduceSub, Nat.reduceBEq, ↓reduceIte, bne_self_eq_false, Bool.and_false, Bool.false_and, Bool.true_or, Bool.false_or, h1, h2])
        | refine k_of (by assumption) ?_
        | refine tr_block ?_
        | refine tr_scope ?_
        | (refine tr_skip ?_; try simp only [ex_seq, ex_block])
        | (refine tr_label ?_; try simp only [ex_seq, ex_block])
        | (refine tr_exit ?_; try simp only [ex_seq_exit, ex_block_exit, Nat.reduceEqDiff, if_true, if_false, ex_seq, ex_block, reduceCtorEq, ↓reduceIte])
        | (refine tr_ret ?_; try simp only [ex_seq_ret, ex_block_ret]))
    refine tr_cond rfl (fun ht => ?_) (fun hf => ?_)
    · cases ht
    · repeat (first
          | refine tr_seq_k fun _ _ => ?_
          | (refine tr_region ?_; simp only [go_sem, List.getElem?_toArray, str_beq, reduceCtorEq, Nat.reduceEqDiff, Nat.reduceLT, Nat.reduceLeDiff, Nat.reduceAdd, Nat.reduceMul, Nat.reduceSub, Nat.reduceBEq, ↓reduceIte, bne_self_eq_false, Bool.and_false, Bool.false_and, Bool.true_or, Bool.false_or, h1, h2])
          | (refine tr_drawS (id := 15) follows 14 [.op 14, .put 15] (by kernel_rfl) ?_; simp only [go_sem, List.getElem?_toArray, str_beq, reduceCtorEq, Nat.reduceEqDiff, Nat.reduceLT, Nat.reduceLeDiff, Nat.reduceAdd, Nat.reduceMul, Nat.reduceSub, Nat.reduceBEq, ↓reduceIte, bne_self_eq_false, Bool.and_false, Bool.false_and, Bool.true_or, Bool.false_or, h1, h2])
          | refine k_of (by assumption) ?_
          | refine tr_block ?_
          | refine tr_scope ?_
          | (refine tr_skip ?_; try simp only [ex_seq, ex_block])
          | (refine tr_label ?_; try simp only [ex_seq, ex_block])
          | (refine tr_exit ?_; try simp only [ex_seq_exit, ex_block_exit, Nat.reduceEqDiff, if_true, if_false, ex_seq, ex_block, reduceCtorEq, ↓reduceIte])
          | (refine tr_ret ?_; try simp only [ex_seq_ret, ex_block_ret]))
      refine tr_cond rfl (fun ht => ?_) (fun hf => ?_)
      · cases ht
      · repeat (first
            | refine tr_seq_k fun _ _ => ?_
            | (refine tr_region ?_; simp only [go_sem, List.getElem?_toArray, str_beq, reduceCtorEq, Nat.reduceEqDiff, Nat.reduceLT, Nat.reduceLeDiff, Nat.reduceAdd, Nat.reduceMul, Nat.reduceSub, Nat.reduceBEq, ↓reduceIte, bne_self_eq_false, Bool.and_false, Bool.false_and, Bool.true_or, Bool.false_or, hb, hN, hlk])
            | (refine tr_drawS (id := 15) follows 14 [.op 14, .put 15] (by kernel_rfl) ?_; simp only [go_sem, List.getElem?_toArray, str_beq, reduceCtorEq, Nat.reduceEqDiff, Nat.reduceLT, Nat.reduceLeDiff, Nat.reduceAdd, Nat.reduceMul, Nat.reduceSub, Nat.reduceBEq, ↓reduceIte, bne_self_eq_false, Bool.and_false, Bool.false_and, Bool.true_or, Bool.false_or, hb, hN, hlk])
            | refine k_of (by assumption) ?_
            | refine tr_block ?_
            | refine tr_scope ?_
            | (refine tr_skip ?_; try simp only [ex_seq, ex_block])
            | (refine tr_label ?_; try simp only [ex_seq, ex_block])
            | (refine tr_exit ?_; try simp only [ex_seq_exit, ex_block_exit, Nat.reduceEqDiff, if_true, if_false, ex_seq, ex_block, reduceCtorEq, ↓reduceIte])
            | (refine tr_ret ?_; try simp only [ex_seq_ret, ex_block_ret]))
        refine tr_cond rfl (fun ht => ?_) (fun hf => ?_)
        · cases ht
        · repeat (first
              | refine tr_seq_k fun _ _ => ?_
              | (refine tr_region ?_; simp only [go_sem, List.getElem?_toArray, str_beq, reduceCtorEq, Nat.reduceEqDiff, Nat.reduceLT, Nat.reduceLeDiff, Nat.reduceAdd, Nat.reduceMul, Nat.reduceSub, Nat.reduceBEq, ↓reduceIte, bne_self_eq_false, Bool.and_false, Bool.false_and, Bool.true_or, Bool.false_or, hb, hN, nmI_len, h3])
              | (refine tr_drawS (id := 15) follows 14 [.op 14, .put 15] (by kernel_rfl) ?_; simp only [go_sem, List.getElem?_toArray, str_beq, reduceCtorEq, Nat.reduceEqDiff, Nat.reduceLT, Nat.reduceLeDiff, Nat.reduceAdd, Nat.reduceMul, Nat.reduceSub, Nat.reduceBEq, ↓reduceIte, bne_self_eq_false, Bool.and_false, Bool.false_and, Bool.true_or, Bool.false_or, hb, hN, nmI_len, h3])
              | refine k_of (by assumption) ?_
              | refine tr_block ?_
              | refine tr_scope ?_
              | (refine tr_skip ?_; try simp only [ex_seq, ex_block])
              | (refine tr_label ?_; try simp only [ex_seq, ex_block])
              | (refine tr_exit ?_; try simp only [ex_seq_exit, ex_block_exit, Nat.reduceEqDiff, if_true, if_false, ex_seq, ex_block, reduceCtorEq, ↓reduceIte])
              | (refine tr_ret ?_; try simp only [ex_seq_ret, ex_block_ret]))
          refine tr_cond rfl (fun ht => ?_) (fun hf => ?_)
          · cases ht
          · repeat (first
                | refine tr_seq_k fun _ _ => ?_
                | (refine tr_region ?_; simp only [go_sem, List.getElem?_toArray, str_beq, reduceCtorEq, Nat.reduceEqDiff, Nat.reduceLT, Nat.reduceLeDiff, Nat.reduceAdd, Nat.reduceMul, Nat.reduceSub, Nat.reduceBEq, ↓reduceIte, bne_self_eq_false, Bool.and_false, Bool.false_and, Bool.true_or, Bool.false_or, hb, h4])
                | (refine tr_drawS (id := 15) follows 14 [.op 14, .put 15] (by kernel_rfl) ?_; simp only [go_sem, List.getElem?_toArray, str_beq, reduceCtorEq, Nat.reduceEqDiff, Nat.reduceLT, Nat.reduceLeDiff, Nat.reduceAdd, Nat.reduceMul, Nat.reduceSub, Nat.reduceBEq, ↓reduceIte, bne_self_eq_false, Bool.and_false, Bool.false_and, Bool.true_or, Bool.false_or, hb, h4])
                | (refine call_givesW (cl) ?_; (try dsimp only); (try simp only [go_sem, List.getElem?_toArray, str_beq, reduceCtorEq, Nat.reduceEqDiff, Nat.reduceLT, Nat.reduceLeDiff, Nat.reduceAdd, Nat.reduceMul, Nat.reduceSub, Nat.reduceBEq, ↓reduceIte, bne_self_eq_false, Bool.and_false, Bool.false_and, Bool.true_or, Bool.false_or, hb, h4]))
                | refine k_of (by assumption) ?_
                | refine tr_block ?_
                | refine tr_scope ?_
                | (refine tr_skip ?_; try simp only [ex_seq, ex_block])
                | (refine tr_label ?_; try simp only [ex_seq, ex_block])
                | (refine tr_exit ?_; try simp only [ex_seq_exit, ex_block_exit, Nat.reduceEqDiff, if_true, if_false, ex_seq, ex_block, reduceCtorEq, ↓reduceIte])
                | (refine tr_ret ?_; try simp only [ex_seq_ret, ex_block_ret]))
            refine tr_cond rfl (fun ht => ?_) (fun hf => ?_)
            · repeat (first
                  | refine tr_seq_k fun _ _ => ?_
                  | (refine tr_region ?_; simp only [go_sem, List.getElem?_toArray, str_beq, reduceCtorEq, Nat.reduceEqDiff, Nat.reduceLT, Nat.reduceLeDiff, Nat.reduceAdd, Nat.reduceMul, Nat.reduceSub, Nat.reduceBEq, ↓reduceIte, bne_self_eq_false, Bool.and_false, Bool.false_and, Bool.true_or, Bool.false_or, hb, gb1, gE1, gN1, setB_eq, i1, f1, e2', gN2, mPut, hlk, nmI_app])
                  | (refine tr_drawS (id := 15) follows 14 [.op 14, .put 15] (by kernel_rfl) ?_; simp only [go_sem, List.getElem?_toArray, str_beq, reduceCtorEq, Nat.reduceEqDiff, Nat.reduceLT, Nat.reduceLeDiff, Nat.reduceAdd, Nat.reduceMul, Nat.reduceSub, Nat.reduceBEq, ↓reduceIte, bne_self_eq_false, Bool.and_false, Bool.false_and, Bool.true_or, Bool.false_or, hb, gb1, gE1, gN1, setB_eq, i1, f1, e2', gN2, mPut, hlk, nmI_app])
                  | (refine call_givesW (c5) ?_; (try dsimp only); (try simp only [go_sem, List.getElem?_toArray, str_beq, reduceCtorEq, Nat.reduceEqDiff, Nat.reduceLT, Nat.reduceLeDiff, Nat.reduceAdd, Nat.reduceMul, Nat.reduceSub, Nat.reduceBEq, ↓reduceIte, bne_self_eq_false, Bool.and_false, Bool.false_and, Bool.true_or, Bool.false_or, hb, gb1, gE1, gN1, setB_eq, i1, f1, e2', gN2, mPut, hlk, nmI_app]))
                  | refine k_of (by assumption) ?_
                  | refine tr_block ?_
                  | refine tr_scope ?_
                  | (refine tr_skip ?_; try simp only [ex_seq, ex_block])
                  | (refine tr_label ?_; try simp only [ex_seq, ex_block])
                  | (refine tr_exit ?_; try simp only [ex_seq_exit, ex_block_exit, Nat.reduceEqDiff, if_true, if_false, ex_seq, ex_block, reduceCtorEq, ↓reduceIte])
                  | (refine tr_ret ?_; try simp only [ex_seq_ret, ex_block_ret]))
              refine (hQ _ _ [iA (n : Nat), iA 0] ?_ rfl rfl).2 <;> simp only [go_sem, List.getElem?_toArray, str_beq, reduceCtorEq, Nat.reduceEqDiff, Nat.reduceLT, Nat.reduceLeDiff, Nat.reduceAdd, Nat.reduceMul, Nat.reduceSub, Nat.reduceBEq, ↓reduceIte, bne_self_eq_false, Bool.and_false, Bool.false_and, Bool.true_or, Bool.false_or, Try.f10]
            · cases hf
  · refine ⟨.lsl hF' 0 (F.length - 1) 1, .lsl hE' 0 E.length 2, mb, (popN L F.length).take (F.length - 1), N ++ [(s, n)], [hF'], [hE'], ?_, ?_, ?_, ?_, ?_, rfl, hnd⟩
    · rw [setB_ne (Ne.symm hnn.1), setB_ne (Ne.symm hnn.2.2.1)]; exact gb1
    · have e : ((popN L F.length).take (F.length - 1)).length = F.length - 1 := by rw [List.length_take, q1]; omega
      refine Or.inr ⟨hF', popN L F.length, by rw [e], rfl, ?_, by rw [e]⟩
      rw [setB_ne hnn.2.2.2.1, setB_ne (Ne.symm hnn.2.2.2.2.2)]
      exact gF1
    · refine Or.inr ⟨hE', L2.set n (s, 1), by rw [List.length_set], rfl, ?_, take_set hEL hln _⟩
      rw [setB_ne hnn.2.2.2.2.1]
      exact setB_self hl21 _
    · exact setB_self (by rw [setB_len]; exact hml1) _
    · refine hI.fill ?_ ?_ hse hf
      · rw [← hFL, ← hge 0 h0, hle0] at q4
        exact q4
      · have e : ((popN L F.length).take (F.length - 1)).length = F.length - 1 := by rw [List.length_take, q1]; omega
        rw [e]
        exact q3

/-- Take, in all. -/
theorem take_tab {m : Mm} {b : Nat} {E : List Ent} {S : List Nat} (h : TabM m b E S) (hW : Wf m) (s : ByteArray) (hM : E.length ≤ 1000) (hU : ∀ e ∈ E, e.2 ≤ 100000) :
    ∃ m' S', GivesW Try.prog 10 [.ptr b 0, sA s] m (.tup [iA ((takeS E s).1.1 : Nat), iA (takeS E s).1.2]) m' ∧ TabM m' b (takeS E s).2 S' ∧ Kp m m' S S' := by
  unfold takeS
  by_cases hs : s.size < 1 ∨ 255 < s.size
  · rw [if_pos hs]
    exact ⟨m, S, take_bad h hs, h, Kp.refl hW S⟩
  · rw [if_neg hs]
    cases hf : findS E s with
    | some n =>
      obtain ⟨m', h1, h2, h3⟩ := take_found h hW hs hf hU
      exact ⟨m', S, h1, h2, h3⟩
    | none =>
      have hl : ¬ 65536 ≤ liveN E := by have := liveN_le E; omega
      simp only [if_neg hl]
      obtain ⟨c1, c2, mb, F, N, s1, s2, hb, hF, hE, hN, hI, hS, hnd⟩ := h
      by_cases h0 : F = []
      · have := hI.least0 h0
        rw [this, if_pos rfl]
        exact take_push hb hF hE hN hI hS hnd hW hs hf hM h0
      · have h0' : 0 < F.length := List.length_pos_iff.2 h0
        have hlt := (hI.least h0').2
        have hFl : F.length ≤ 1000 := by
          refine Nat.le_trans ?_ hM
          exact hI.free_le
        rw [if_neg (by omega)]
        obtain ⟨m', h1, h2, h3⟩ := take_pop hb hF hE hN hI hS hnd hW hs hf hM hFl h0'
        exact ⟨m', S, h1, h2, h3⟩
end Go.Proofs.Ytlhlcfijpdknfaa
