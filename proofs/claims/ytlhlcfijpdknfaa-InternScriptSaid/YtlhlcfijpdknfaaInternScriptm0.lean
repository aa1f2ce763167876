/-
  Part 0 of the proof's own texts: general lemmas and contracts of functions, laid one behind the other.
-/
import Derived.Test.YtlhlcfijpdknfaaAm
import Derived.Test.YtlhlcfijpdknfaaAp
import Derived.Test.YtlhlcfijpdknfaaTy
import Derived.Test.YtlhlcfijpdknfaaAr
import Derived.Test.YtlhlcfijpdknfaaBc
import Derived.Test.YtlhlcfijpdknfaaBf
import Derived.Test.YtlhlcfijpdknfaaHp
import Derived.KernelRfl
/-
  A slice that was collected by a callee, as a local block of the caller's; a callee that works in the caller's memory. No program in sight.
-/
set_option linter.unusedVariables false
set_option linter.unusedSimpArgs false
namespace Go.Vs.Ab
open Go.RowKit

variable {P : Program} {X : Mem} {W0 w w' : World} {m : Mm}

theorem vals_getv : ∀ {cs : List CV} {xs : List Value}, vals cs = some xs → ∀ (i : Nat) (c : CV), cs[i]? = some c → ∃ x, c = .v x ∧ xs[i]? = some x
  | [], xs, h, i, c, hc => by simp at hc
  | .sl .. :: _, _, h, _, _, _ => by simp [vals] at h
  | .v x :: r, xs, h, i, c, hc => by
    simp only [vals, Option.map_eq_some_iff] at h
    obtain ⟨ys, h1, rfl⟩ := h
    cases i with
    | zero => simp at hc; exact ⟨x, hc.symm, rfl⟩
    | succ i =>
      obtain ⟨y, h2, h3⟩ := vals_getv h1 i c (by simpa using hc)
      exact ⟨y, h2, by simpa using h3⟩

/-- A block that nobody knows as yet, as a local one. -/
theorem MR.adopt (M : MR X W0 m w) {β R : Nat} {cur : Array Value} {t : TypeId} {cs : List AV} (hW : W0.heap.size ≤ β) (hcell : ∀ o, X.cell β o = none) (hloc : ∀ i, X.loc i ≠ some β) (hown : ∀ k T, X.own k = some T → T.g ≠ β)
    (hheap : w.heap[β]? = some (.cells cur t (0, 0))) (hl : cs.length ≤ cur.size) (hr : Reps X cs (cur.toList.take cs.length)) (hR : X.room β ≤ R) (hRs : R ≤ cur.size) :
    MR (X.adopt m.hp.length β R) W0 { m with hp := m.hp ++ [⟨false, cs⟩] } w ∧ X.Le W0.heap.size (X.adopt m.hp.length β R) :=
  M.adopt' hW hcell (fun i _ h _ => absurd h (hloc i)) hown hheap hl hr hR hRs

/-- What a callee collected (all of it plain), as a block of the caller's. -/
theorem Does.lsl {F : FuncId} {args args' : List AV} {f : Mm → AV × Mm} (h : Does P F args' f) (hs : shuts args = some args') {k n : Nat} {e : TypeId} {size : Nat} {cs : List CV} {xs : List Value} {m1 : Mm} (hf : f ⟨[], []⟩ = (.own k n cs, m1)) (hk : m1.hw[k]? = some ⟨n, e, size⟩) (hv : vals cs = some xs) (m : Mm) :
    Gives P F args m (.lsl m.hp.length 0 n size) { m with hp := m.hp ++ [⟨false, cs.map .c⟩] } := by
  refine ⟨h.1, fun X W0 w vs M ha => ?_⟩
  refine (h.2 X.bare w ⟨[], []⟩ w vs (bare_MR M) (shuts_rep (X := X) (Y := X.bare) rfl hs ha)).mono ?_
  rintro _ w' ⟨v, X1, rfl, k1, k2, k3, _⟩
  rw [hf] at k2 k3
  have M1 := M.grow k3.below
  obtain ⟨T, t1, ⟨t2, t2e, t2s⟩, t3, t4, t5, t6, ⟨cur, t7, t8⟩, t9, t10⟩ := k3.toks k _ hk
  simp only at t2 t2e t2s
  cases k2 with
  | own hr hn1 hc hx ht =>
    rename_i ys a cap
    obtain ⟨T', u1, u2, u3⟩ := ht
    rw [t1] at u1
    injection u1 with u1
    subst u1
    obtain ⟨rfl, rfl⟩ := u3 t2.symm
    have hnew : ∀ o, X.cell T.g o = none := fun o => by
      cases hq : X.cell T.g o with
      | none => rfl
      | some x => have := M.cellBlock hq; omega
    have hroom : X.room T.g = 0 := by
      rcases Nat.eq_zero_or_pos (X.room T.g) with h0 | h0
      · exact h0
      · obtain ⟨ar, tt, q1, _⟩ := M.rm T.g h0
        have := (Array.getElem?_eq_some_iff.1 q1).1
        omega
    have hcurj : ∀ (j : Nat) (x : Value), ys[j]? = some x → cur[j]? = some x := fun j x hj => by
      obtain ⟨b, o, e1, e2⟩ := hx j x hj
      injection e1 with e1
      injection e1 with e1 e3
      subst e1 e3
      have h5 := k3.cell _ _ _ e2
      rw [Nat.zero_add] at h5
      simp only [World.cell?, t7] at h5
      simpa using h5
    have hlen : cs.length ≤ cur.size := by
      rcases Nat.eq_zero_or_pos cs.length with h0 | h0
      · omega
      · have hl : cs.length - 1 < ys.length := by rw [← hr.1]; omega
        have := hcurj _ _ (List.getElem?_eq_getElem hl)
        have := (Array.getElem?_eq_some_iff.1 this).1
        omega
    have hrp : Reps X (cs.map .c) (cur.toList.take (cs.map AV.c).length) := by
      rw [List.length_map]
      refine ⟨by rw [List.length_map, List.length_take]; simp only [Array.length_toList]; omega, fun i c x h1 h2 => ?_⟩
      rw [List.getElem?_map, Option.map_eq_some_iff] at h1
      obtain ⟨c0, h1, rfl⟩ := h1
      have hi := (List.getElem?_eq_some_iff.1 h1).1
      rw [List.getElem?_take, if_pos hi, Array.getElem?_toList] at h2
      obtain ⟨x0, rfl, _⟩ := vals_getv hv i c0 h1
      have hl : i < ys.length := by rw [← hr.1]; exact hi
      have h3 := hcurj i _ (List.getElem?_eq_getElem hl)
      rw [h2] at h3
      injection h3 with h3
      have h4 := hr.2 i _ _ h1 (List.getElem?_eq_getElem hl)
      rw [← h3] at h4
      cases h4 with
      | v h5 => exact .c (.v h5)
    obtain ⟨A, hle⟩ := M1.adopt (β := T.g) (R := T.cap * T.size) (Nat.le_trans M.below.size t3) hnew (fun i hi => by have := (M.locBlock hi).1; omega) (fun k S hS e => by have := (M.tokBlock hS).1; omega) t7 (by rw [List.length_map]; exact hlen) hrp (by rw [hroom]; exact Nat.zero_le _) (by rw [t8]; exact Nat.le_refl _)
    refine ⟨_, X.adopt m.hp.length T.g (T.cap * T.size), rfl, hle, ?_, A, fun i β hi => k3.below.block β (M.locBlock hi).1⟩
    refine .lsl (by simp [Mem.adopt]) (fun _ => by rw [Nat.zero_mul]) hn1 hc.1 ?_
    simp only [Mem.adopt, if_true]
    rw [t2s, Nat.zero_add]
    exact Nat.le_refl _

/-- A function, by its body, called in the caller's memory. -/
theorem givesW_of {F : FuncId} {fn : Func} {c : Code} (hF : P.funcs[F]? = some fn) (hb : fn.body = some c) (hcb : callableB fn = true) {args : List AV} {r : AV} {m m' : Mm} (hle : args.length ≤ fn.ntmps)
    (h : Tr fle P fn.ntmps c (initFr 0 args) m (fun e fr m1 => (∀ id, e ≠ .exit id) ∧ ∃ cs, resAll P fr m1 fn.results.toList = some cs ∧ resV cs = r ∧ m1 = m')) : GivesW P F args m r m' := by
  refine ⟨callable_of hF hcb, fun X W0 w vs M hargs => ?_⟩
  refine (calls_of_wp hF hb (R := fun e w' => ∃ v X', e = .returned v ∧ X.Le W0.heap.size X' ∧ Rep X' r v ∧ MR X' W0 m' w') (wp_mono (h X W0 w _ (FR.init hargs hle) M) ?_))
  rintro _ a' w' ⟨ex, fr', m1, X1, rfl, ⟨hne, cs, h1, rfl, rfl⟩, k1, k2, k3⟩
  obtain ⟨vs', g1, g2⟩ := resAll_ok k2 k3 h1
  have : a'.defers = [] ∧ ∃ v, (results fn a'.tmps).run P w' = .ok v w' ∧ ∃ v2 X', Ending.returned v = .returned v2 ∧ X.Le W0.heap.size X' ∧ Rep X' (resV cs) v2 ∧ MR X' W0 m1 w' :=
    ⟨k2.defers, _, results_run g2, _, X1, rfl, k1, resV_ok g1, k3⟩
  cases ex with
  | nrm => exact this
  | ret => exact this
  | exit id => exact absurd rfl (hne id)
theorem givesW_of' {F : FuncId} {fn : Func} {c : Code} {rs : List ResultVar} (hF : P.funcs[F]? = some fn) (hb : fn.body = some c) (hcb : callableB fn = true) {args : List AV} {r : AV} {m m' : Mm} {nt : Nat} (hnt : fn.ntmps = nt) (hle : Nat.ble args.length nt = true) (hrs : fn.results.toList = rs)
    (h : ∀ Q : Ex → Fr → Mm → Prop, (∀ fr m1 cs, resAll P fr m1 rs = some cs → resV cs = r → m1 = m' → Q .nrm fr m1 ∧ Q .ret fr m1) → Tr fle P nt c (initFr 0 args) m Q) : GivesW P F args m r m' := by
  subst hnt hrs
  exact givesW_of hF hb hcb (by simpa using hle) (h _ fun fr m1 cs h1 h2 h3 => ⟨⟨(fun _ h => by cases h), cs, h1, h2, h3⟩, ⟨(fun _ h => by cases h), cs, h1, h2, h3⟩⟩)
end Go.Vs.Ab

/-
  Blocks that hold a list of encoded things; slices over them, written in place, closed. No program in sight.
-/
set_option linter.unusedVariables false
set_option linter.unusedSimpArgs false
namespace Go.Vs.Ab
open Go.RowKit

variable {P : Program} {X : Mem} {W0 w w' : World} {m : Mm}

/-- The cells of a list of encoded things. -/
def blC {T : Type} (enc : T → List CV) (l : List T) : List AV := (l.flatMap enc).map .c
theorem plainB_blC {T : Type} {enc : T → List CV} {l : List T} : plainB (blC enc l) = true := by
  unfold blC
  cases l.flatMap enc <;> rfl
theorem lows_c (i j : Nat) : ∀ ds : List CV, lows i j (ds.map .c) = true
  | [] => rfl
  | d :: r => by
    show (low i j (.c d) && lows i j (r.map .c)) = true
    rw [lows_c i j r]
    rfl
theorem lows_blC {T : Type} {enc : T → List CV} {l : List T} {i j : Nat} : lows i j (blC enc l) = true := lows_c i j _
theorem len_blC {T : Type} {enc : T → List CV} {size : Nat} (hk : ∀ x, (enc x).length = size) (l : List T) : (blC enc l).length = l.length * size := by
  unfold blC
  rw [List.length_map, flat_length enc size hk]
theorem cleans_map : ∀ ds : List CV, cleans (ds.map .c) = some ds
  | [] => rfl
  | d :: r => by
    show cleans (.c d :: r.map .c) = _
    simp only [cleans, clean, cleans_map r]
theorem drop_blC {T : Type} {enc : T → List CV} {size : Nat} (hk : ∀ x, (enc x).length = size) {l : List T} {k : Nat} (h : k < l.length) : List.drop (k * size) (blC enc l) = (enc l[k]).map .c ++ blC enc (l.drop (k + 1)) := by
  unfold blC
  rw [← List.map_drop, flat_drop enc size hk l k h, List.map_append]
theorem fit_blC {T : Type} {enc : T → List CV} {size : Nat} (hk : ∀ x, (enc x).length = size) {l : List T} {k : Nat} (h : k < l.length) : k * size + size ≤ (blC enc l).length := by
  rw [len_blC hk]
  have : (k + 1) * size ≤ l.length * size := Nat.mul_le_mul_right _ h
  rwa [Nat.add_mul, Nat.one_mul] at this
theorem take_flat {T : Type} {enc : T → List CV} {size : Nat} (hk : ∀ x, (enc x).length = size) (l : List T) (k : Nat) : List.take (k * size) (l.flatMap enc) = (l.take k).flatMap enc := by
  induction k generalizing l with
  | zero => simp
  | succ k ih =>
    cases l with
    | nil => simp
    | cons x l =>
      rw [List.flatMap_cons, List.take_succ_cons, List.flatMap_cons, ← ih l]
      have : (k + 1) * size = (enc x).length + k * size := by rw [hk, Nat.add_mul, Nat.one_mul, Nat.add_comm]
      rw [this, List.take_append]
      have h1 : List.take ((enc x).length + k * size) (enc x) = enc x := List.take_of_length_le (by omega)
      rw [h1]
      congr 2
      omega
theorem drop_flat {T : Type} {enc : T → List CV} {size : Nat} (hk : ∀ x, (enc x).length = size) (l : List T) (k : Nat) : List.drop (k * size) (l.flatMap enc) = (l.drop k).flatMap enc := by
  induction k generalizing l with
  | zero => simp
  | succ k ih =>
    cases l with
    | nil => simp
    | cons x l =>
      rw [List.flatMap_cons, List.drop_succ_cons, ← ih l]
      have : (k + 1) * size = (enc x).length + k * size := by rw [hk, Nat.add_mul, Nat.one_mul, Nat.add_comm]
      rw [this, ← List.drop_drop, List.drop_left' rfl]
theorem set_blC {T : Type} {enc : T → List CV} {size : Nat} (hk : ∀ x, (enc x).length = size) {l : List T} {k : Nat} (h : k < l.length) (x : T) : List.take (k * size) (blC enc l) ++ (enc x).map AV.c ++ List.drop (k * size + size) (blC enc l) = blC enc (l.set k x) := by
  unfold blC
  have e : k * size + size = (k + 1) * size := by rw [Nat.add_mul, Nat.one_mul]
  rw [← List.map_take, ← List.map_drop, e, take_flat hk, drop_flat hk, List.set_eq_take_append_cons_drop, if_pos h, List.flatMap_append, List.flatMap_cons, List.map_append, List.map_append, List.append_assoc]

/-- A place in a slice over a local block; parts of it. -/
theorem idxL {t e : TypeId} {size : Nat} (ht : P.underlying t = some (.slice e)) (hs : tsz P e = some size) (h0 : 0 < size) {b lo n k : Nat} {ik : IntKind} (h : k < n) : aIndexL P t (.lsl b lo n size) (.c (.v (.int ik (k : Int)))) = some (.ptr b ((lo + k) * size)) := by
  have h1 : Nat.blt k n = true := by simpa using h
  have h2 : Nat.blt 0 size = true := by simpa using h0
  have hn : natI (k : Int) = some k := natI_nat k
  simp only [aIndexL, ht, lsV, intV, hs, hn, h1, h2, Nat.beq_refl, Bool.and_self, if_true]
theorem slL_from {t e : TypeId} {size : Nat} (ht : P.underlying t = some (.slice e)) (hs : tsz P e = some size) {b lo n k : Nat} (h : k ≤ n) : aSliceL P t (.lsl b lo n size) (some (k : Int)) none none = some (.lsl b (lo + k) (n - k) size) := by
  have hb : bnds n (some (k : Int)) none none = some (k, n, none) := by
    unfold bnds
    simp [natI_nat, h]
  simp only [aSliceL, ht, lsV, hs, hb, Nat.beq_refl, if_true]
theorem slL_to {t e : TypeId} {size : Nat} (ht : P.underlying t = some (.slice e)) (hs : tsz P e = some size) {b lo n k : Nat} (h : k ≤ n) : aSliceL P t (.lsl b lo n size) none (some (k : Int)) none = some (.lsl b lo k size) := by
  have hb : bnds n none (some (k : Int)) none = some (0, k, none) := by
    unfold bnds
    simp [natI_nat, h]
  simp only [aSliceL, ht, lsV, hs, hb, Nat.beq_refl, if_true, Nat.add_zero, Nat.sub_zero]
theorem zrs_rep {T : Type} {enc : T → List CV} (z : T) (n : Nat) (h : 0 < (enc z).length) : zrs n (enc z) = blC enc (List.replicate n z) := by
  have key : ∀ n, (List.range (n * (enc z).length)).map (fun i => (enc z).getD (i % (enc z).length) default) = (List.replicate n z).flatMap enc := fun n => by
    induction n with
    | zero => simp
    | succ n ih =>
      rw [List.replicate_succ', List.flatMap_append, ← ih, Nat.add_mul, Nat.one_mul, List.range_add, List.map_append]
      congr 1
      simp only [List.flatMap_cons, List.flatMap_nil, List.append_nil, List.map_map]
      apply List.ext_getElem?
      intro i
      rw [List.getElem?_map]
      by_cases hi : i < (enc z).length
      · rw [List.getElem?_range hi]
        simp only [Option.map_some, Function.comp]
        rw [Nat.add_comm, Nat.add_mul_mod_self_right, Nat.mod_eq_of_lt hi, List.getD_eq_getElem?_getD, List.getElem?_eq_getElem hi]
        rfl
      · rw [List.getElem?_eq_none (by simpa using hi), List.getElem?_eq_none (Nat.le_of_not_lt hi)]
        rfl
  unfold zrs blC
  rw [key]
theorem clear_blC {T : Type} {enc : T → List CV} {size : Nat} (hk : ∀ x, (enc x).length = size) (h0 : 0 < size) {t e : TypeId} (ht : P.underlying t = some (.slice e)) {z : T} (hz : tzero P e = some (enc z)) {l : List T} {i : Nat} (hi : i ≤ l.length) {hw : List Hw} :
    aClear P ⟨[⟨false, blC enc l⟩], hw⟩ t (.lsl 0 i (l.length - i) size) = some ⟨[⟨false, blC enc (l.take i ++ List.replicate (l.length - i) z)⟩], hw⟩ := by
  simp only [aClear, ht, lsV, hz]
  by_cases hn : l.length - i = 0
  · rw [hn]
    rw [if_pos (by rfl)]
    rw [List.take_of_length_le (by omega)]
    simp
  · have hb : Nat.beq (l.length - i) 0 = false := by
      rw [Bool.eq_false_iff]
      exact fun e => hn (Nat.eq_of_beq_eq_true e)
    have hle : Nat.ble (i * size + (l.length - i) * size) (blC enc l).length = true := by
      rw [len_blC hk, ← Nat.add_mul, Nat.ble_eq]
      exact Nat.mul_le_mul_right _ (by omega)
    simp only [hb, if_false, List.getElem?_cons_zero, hk, Nat.beq_refl, plainB_blC, hle, Bool.not_false, Bool.and_self, if_true, Bool.false_eq_true]
    rw [zrs_rep z _ (by rw [hk]; exact h0)]
    have e1 : List.drop (i * size + (l.length - i) * size) (blC enc l) = [] := by
      apply List.drop_eq_nil_of_le
      rw [len_blC hk, ← Nat.add_mul]
      exact Nat.mul_le_mul_right _ (by omega)
    rw [e1, List.append_nil]
    unfold blC
    rw [← List.map_take, take_flat hk, ← List.map_append, ← List.flatMap_append]
    rfl

/-- A slice over a local block that is written no more. -/
theorem GivesW.freeze {F : FuncId} {args : List AV} {b lo n k : Nat} {m1 : Mm} (h : GivesW P F args m (.lsl b lo n k) m1) {ds : List CV} (hb : m1.hp[b]? = some ⟨false, ds.map .c⟩) :
    GivesW P F args m (.c (.sl false n ((ds.drop (lo * k)).take (n * k)))) { m1 with hp := m1.hp.set b ⟨true, ds.map .c⟩ } := by
  refine ⟨h.1, fun X W0 w vs M hargs => (h.2 X W0 w vs M hargs).mono ?_⟩
  rintro _ w' ⟨v, X1, rfl, k1, k2, k3⟩
  have hz : aFreeze m1 b = some { m1 with hp := m1.hp.set b ⟨true, ds.map .c⟩ } := by
    simp only [aFreeze, hb, cleans_map]
    rfl
  obtain ⟨X2, l1, l2, _⟩ := aFreeze_ok k3 hz
  have hlt := (List.getElem?_eq_some_iff.1 hb).1
  refine ⟨v, X2, rfl, k1.trans l1, ?_, l2⟩
  have k4 := k2.mono l1
  cases k4 with
  | lsl hl ho hn hcap hrm =>
    rename_i β o cap
    have hf : fixedAt { m1 with hp := m1.hp.set b ⟨true, ds.map .c⟩ } (.ptr b (lo * k)) = some (ds.drop (lo * k)) := by
      simp only [fixedAt, List.getElem?_set_self hlt, if_true, cleans_map, Option.map_some]
    obtain ⟨b', o', xs, e, r1, r2⟩ := fixedAt_rep l2 hf (.ptr hl)
    injection e with e
    injection e with e
    injection e with e1 e2
    subst e1 e2
    have q1 := r1.take (n * k)
    have q2 := r2.take (n * k)
    refine .c (.sl q1.1 q1.2 hn ⟨hcap, fun e => by cases e⟩ (fun e => by cases e) ?_)
    rcases Nat.eq_zero_or_pos cap with h0 | h0
    · have : n = 0 := by omega
      subst this
      rw [Nat.zero_mul, List.take_zero]
      exact fun j x h => by cases h
    · rw [ho h0]
      exact q2
attribute [go_sem] plainB_blC
end Go.Vs.Ab

/-
  A slice that was collected, from now on a local block; what was claimed of new cells is forgotten. No program in sight.
-/
set_option linter.unusedVariables false
set_option linter.unusedSimpArgs false
namespace Go.Vs.Ab
open Go.RowKit

variable {P : Program} {X : Mem} {W0 w w' : World} {m : Mm} {nt : Nat} {fr : Fr} {Q : Ex → Fr → Mm → Prop}

def allV : List CV → Bool
  | [] => true
  | .v _ :: r => allV r
  | .sl .. :: _ => false
/-- Needs no claim on any cell. -/
def free : AV → Bool
  | .c (.v _) => true
  | .agg cs => allV cs
  | .ptr _ _ => true
  | .mapp _ => true
  | _ => false
def frees : List AV → Bool
  | [] => true
  | c :: r => free c && frees r
def freeF : Fr → Bool
  | [] => true
  | (_, c) :: r => free c && freeF r
def freeB : List Blk → Bool
  | [] => true
  | b :: r => !b.fz && (frees b.cs && freeB r)
theorem allV_rep {C D : Nat → Nat → Option Value} : ∀ {cs : List CV} {xs : List Value}, allV cs = true → RepCs C cs xs → RepCs D cs xs := fun {cs xs} h hr => by
  refine ⟨hr.1, fun i c x h1 h2 => ?_⟩
  have key : ∀ {cs : List CV} (i : Nat) (c : CV), allV cs = true → cs[i]? = some c → ∃ v, c = .v v := fun {cs} => by
    induction cs with
    | nil => intro i c _ h; simp at h
    | cons d r ih =>
      intro i c ha hc
      cases d with
      | v x =>
        cases i with
        | zero => simp at hc; exact ⟨x, hc.symm⟩
        | succ i => exact ih i c ha (by simpa using hc)
      | sl => cases ha
  obtain ⟨v, rfl⟩ := key i c h h1
  have := hr.2 i _ x h1 h2
  cases this with
  | v h => exact .v h
theorem Rep.free {Y : Mem} {c : AV} {x : Value} (h : Rep X c x) (hf : Ab.free c = true) (hl : ∀ i β, X.loc i = some β → Y.loc i = some β) : Rep Y c x := by
  cases h with
  | c h =>
    cases h with
    | v h => exact .c (.v h)
    | sl => cases hf
  | agg h => exact .agg (allV_rep hf h)
  | ptr h => exact .ptr (hl _ _ h)
  | mapp h => exact .mapp (hl _ _ h)
  | tup => cases hf
  | own => cases hf
  | cptr => cases hf
  | fn => cases hf
  | lsl => cases hf
  | ifc => cases hf
  | strc => cases hf
theorem frees_get : ∀ {cs : List AV}, frees cs = true → ∀ (k : Nat) (c : AV), cs[k]? = some c → free c = true
  | [], _, k, c, h => by simp at h
  | x :: r, h, k, c, hc => by
    simp only [frees, Bool.and_eq_true] at h
    cases k with
    | zero => simp at hc; subst hc; exact h.1
    | succ k => exact frees_get h.2 k c (by simpa using hc)
theorem freeF_find : ∀ {fr : Fr}, freeF fr = true → ∀ t c, find fr t = some c → free c = true
  | [], _, t, c, h => by cases h
  | (s, d) :: r, h, t, c, hc => by
    simp only [freeF, Bool.and_eq_true] at h
    simp only [find] at hc
    split at hc
    · injection hc with hc; subst hc; exact h.1
    · exact freeF_find h.2 t c hc
theorem freeB_get : ∀ {bs : List Blk}, freeB bs = true → ∀ (k : Nat) (b : Blk), bs[k]? = some b → b.fz = false ∧ frees b.cs = true
  | [], _, k, b, h => by simp at h
  | x :: r, h, k, b, hb => by
    simp only [freeB, Bool.and_eq_true, Bool.not_eq_true'] at h
    cases k with
    | zero => simp at hb; subst hb; exact ⟨h.1, h.2.1⟩
    | succ k => exact freeB_get h.2.2 k b (by simpa using hb)

/-- Claims on cells from base on are forgotten, rooms too. -/
def Mem.old (X : Mem) (base : Nat) : Mem := ⟨fun b o => if b < base then X.cell b o else none, X.loc, fun _ => none, X.room⟩
theorem MR.old (M : MR X W0 m w) (hb : freeB m.hp = true) : MR (X.old W0.heap.size) W0 ⟨m.hp, []⟩ w := by
  have hsub : ∀ b o x, (X.old W0.heap.size).cell b o = some x → X.cell b o = some x := fun b o x h => by
    simp only [Mem.old] at h
    split at h
    · exact h
    · cases h
  have hno : ∀ β, (∀ o, X.cell β o = none) → ∀ o, (X.old W0.heap.size).cell β o = none := fun β h o => by
    simp only [Mem.old]
    split
    · exact h o
    · rfl
  refine ⟨M.below, fun b o x h => M.cell b o x (hsub b o x h), M.ldom, fun i blk h => ?_, M.inj, fun k T h => (by cases h), fun k n h => (by simp at h), fun i j S T h => (by cases h), M.rm⟩
  obtain ⟨β, h1, h2, h3, hB⟩ := M.locs i blk h
  obtain ⟨hfz, hfr⟩ := freeB_get hb i blk h
  refine ⟨β, h1, h2, h3, ?_⟩
  cases hB with
  | dead h => exact .dead h
  | ent g1 g2 g3 g4 g5 => exact .ent g1 g2 g3 g4 (hno β g5)
  | cells g1 g2 g3 g4 g5 =>
    refine .cells g1 g2 ⟨g3.1, fun k c x q1 q2 => (g3.2 k c x q1 q2).free (frees_get hfr k c q1) fun _ _ h => h⟩ (fun e => by rw [hfz] at e; cases e) (fun e => hno β (g5 e))

theorem tr_thaw {c : Code} {s k n : Nat} {cs : List CV} {xs : List Value} {e : TypeId} {size : Nat} {fr0 : Fr} (hf : find fr s = some (.own k n cs)) (hk : m.hw[k]? = some ⟨n, e, size⟩) (hv : vals cs = some xs) (hs : SubF fr0 fr) (hc : freeF fr0 = true) (hb : freeB m.hp = true)
    (h : Tr cle P nt c ((s, .lsl m.hp.length 0 n size) :: fr0) ⟨m.hp ++ [⟨false, cs.map .c⟩], []⟩ Q) : Tr cle P nt c fr m Q := fun X W0 w a F M => by
  obtain ⟨v, hv1, hv2⟩ := F.slot s _ hf
  obtain ⟨T, t1, ⟨t2, t2e, t2s⟩, t3, t4, t5, t6, ⟨cur, t7, t8⟩, t9, t10⟩ := M.toks k _ hk
  simp only at t2 t2e t2s
  cases hv2 with
  | own hr hn1 hcap hx ht =>
    rename_i ys a0 cap
    obtain ⟨T', u1, u2, u3⟩ := ht
    rw [t1] at u1
    injection u1 with u1
    subst u1
    obtain ⟨rfl, rfl⟩ := u3 t2.symm
    have hcurj : ∀ (j : Nat) (x : Value), ys[j]? = some x → cur[j]? = some x := fun j x hj => by
      obtain ⟨b, o, e1, e2⟩ := hx j x hj
      injection e1 with e1
      injection e1 with e1 e3
      subst e1 e3
      have h5 := M.cell _ _ _ e2
      rw [Nat.zero_add] at h5
      simp only [World.cell?, t7] at h5
      simpa using h5
    have hlen : cs.length ≤ cur.size := by
      rcases Nat.eq_zero_or_pos cs.length with h0 | h0
      · omega
      · have hl : cs.length - 1 < ys.length := by rw [← hr.1]; omega
        have := hcurj _ _ (List.getElem?_eq_getElem hl)
        have := (Array.getElem?_eq_some_iff.1 this).1
        omega
    have hrp : Reps (X.old W0.heap.size) (cs.map .c) (cur.toList.take (cs.map AV.c).length) := by
      rw [List.length_map]
      refine ⟨by rw [List.length_map, List.length_take]; simp only [Array.length_toList]; omega, fun i c x h1 h2 => ?_⟩
      rw [List.getElem?_map, Option.map_eq_some_iff] at h1
      obtain ⟨c0, h1, rfl⟩ := h1
      have hi := (List.getElem?_eq_some_iff.1 h1).1
      rw [List.getElem?_take, if_pos hi, Array.getElem?_toList] at h2
      obtain ⟨x0, rfl, _⟩ := vals_getv hv i c0 h1
      have hl : i < ys.length := by rw [← hr.1]; exact hi
      have h3 := hcurj i _ (List.getElem?_eq_getElem hl)
      rw [h2] at h3
      injection h3 with h3
      have h4 := hr.2 i _ _ h1 (List.getElem?_eq_getElem hl)
      rw [← h3] at h4
      cases h4 with
      | v h5 => exact .c (.v h5)
    have hroom : (X.old W0.heap.size).room T.g ≤ T.cap * T.size := by
      show X.room T.g ≤ _
      rcases Nat.eq_zero_or_pos (X.room T.g) with h0 | h0
      · omega
      · obtain ⟨ar, tt, q1, q2⟩ := M.rm T.g h0
        rw [t7] at q1
        injection q1 with q1
        injection q1 with q1 q3
        subst q1
        omega
    obtain ⟨A, hle⟩ := (M.old hb).adopt (β := T.g) (R := T.cap * T.size) (cs := cs.map .c) t3 (fun o => by simp only [Mem.old]; rw [if_neg (by omega)]) t10 (fun k S hS => by cases hS) t7 (by rw [List.length_map]; exact hlen) hrp hroom (by rw [t8]; exact Nat.le_refl _)
    have hXY : cle W0.heap.size X ((X.old W0.heap.size).adopt m.hp.length T.g (T.cap * T.size)) := by
      refine ⟨fun b o x hb hx => ?_, fun b o x hb hx => ?_, hle.loc, hle.room⟩
      · simp only [Mem.adopt, Mem.old]
        rw [if_pos hb]
        exact hx
      · simp only [Mem.adopt, Mem.old] at hx
        rw [if_pos hb] at hx
        exact hx
    have F' : FR ((X.old W0.heap.size).adopt m.hp.length T.g (T.cap * T.size)) nt ((s, .lsl m.hp.length 0 n size) :: fr0) a := by
      refine ⟨F.size, F.defers, fun t c' hc' => ?_⟩
      simp only [find] at hc'
      split at hc'
      · rename_i est
        have est := Nat.eq_of_beq_eq_true est
        subst est
        injection hc' with hc'
        subst hc'
        refine ⟨_, hv1, .lsl (by simp [Mem.adopt]) (fun _ => by rw [Nat.zero_mul]) hn1 hcap.1 ?_⟩
        simp only [Mem.adopt, if_true]
        rw [t2s, Nat.zero_add]
        exact Nat.le_refl _
      · obtain ⟨x, p1, p2⟩ := F.slot t c' (hs.spec t c' hc')
        exact ⟨x, p1, p2.free (freeF_find hc t c' hc') hle.loc⟩
    refine wp_mono (h _ W0 w a F' A) ?_
    rintro _ a' w' ⟨ex, fr', m', X', rfl, hq, k1, k2, k3⟩
    exact ⟨ex, fr', m', X', rfl, hq, RelOk.trans hXY k1, k2, k3⟩

theorem lsl_closed {b lo n k : Nat} {ds : List CV} {v : Value} (l2 : MR X W0 { m with hp := m.hp.set b ⟨true, ds.map .c⟩ } w) (hlt : b < m.hp.length) (k4 : Rep X (.lsl b lo n k) v) : Rep X (.c (.sl false n ((ds.drop (lo * k)).take (n * k)))) v := by
  cases k4 with
  | lsl hl ho hn hcap hrm =>
    rename_i β o cap
    have hf : fixedAt { m with hp := m.hp.set b ⟨true, ds.map .c⟩ } (.ptr b (lo * k)) = some (ds.drop (lo * k)) := by
      simp only [fixedAt, List.getElem?_set_self hlt, if_true, cleans_map, Option.map_some]
    obtain ⟨b', o', xs, e, r1, r2⟩ := fixedAt_rep l2 hf (.ptr hl)
    injection e with e
    injection e with e
    injection e with e1 e2
    subst e1 e2
    have q1 := r1.take (n * k)
    have q2 := r2.take (n * k)
    refine .c (.sl q1.1 q1.2 hn ⟨hcap, fun e => by cases e⟩ (fun e => by cases e) ?_)
    rcases Nat.eq_zero_or_pos cap with h0 | h0
    · have : n = 0 := by omega
      subst this
      rw [Nat.zero_mul, List.take_zero]
      exact fun j x h => by cases h
    · rw [ho h0]
      exact q2
/-- A slice over a local block that is written no more. -/
theorem tr_frz {R : MRel} [hR : RelOk R] {c : Code} {s b lo n k : Nat} {ds : List CV} (hf : find fr s = some (.lsl b lo n k)) (hb : m.hp[b]? = some ⟨false, ds.map .c⟩)
    (h : Tr R P nt c ((s, .c (.sl false n ((ds.drop (lo * k)).take (n * k)))) :: fr) { m with hp := m.hp.set b ⟨true, ds.map .c⟩ } Q) : Tr R P nt c fr m Q := fun X W0 w a F M => by
  have hz : aFreeze m b = some { m with hp := m.hp.set b ⟨true, ds.map .c⟩ } := by
    simp only [aFreeze, hb, cleans_map]
    rfl
  obtain ⟨X2, l1, l2, _⟩ := aFreeze_ok M hz
  have hlt := (List.getElem?_eq_some_iff.1 hb).1
  have F' : FR X2 nt ((s, .c (.sl false n ((ds.drop (lo * k)).take (n * k)))) :: fr) a := by
    refine ⟨F.size, F.defers, fun t c' hc' => ?_⟩
    simp only [find] at hc'
    split at hc'
    · rename_i est
      have est := Nat.eq_of_beq_eq_true est
      subst est
      injection hc' with hc'
      subst hc'
      obtain ⟨v, p1, p2⟩ := F.slot s _ hf
      exact ⟨v, p1, lsl_closed l2 hlt (p2.mono l1)⟩
    · obtain ⟨x, p1, p2⟩ := F.slot t c' hc'
      exact ⟨x, p1, p2.mono l1⟩
  refine wp_mono (h X2 W0 w a F' l2) ?_
  rintro _ a' w' ⟨ex, fr', m', X', rfl, hq, k1, k2, k3⟩
  exact ⟨ex, fr', m', X', rfl, hq, hR.trans (hR.of l1) k1, k2, k3⟩
end Go.Vs.Ab

/-
  Chapter 2: what is shared: numbers, Pick; slices of numbers over local blocks: Len, Less, Swap.
-/
set_option linter.unusedSimpArgs false
set_option linter.unusedVariables false
namespace Go.Proofs.Ytlhlcfijpdknfaa
open Go.Vs Go.Vs.Ab Go.Vs.Hp
set_option maxRecDepth 100000
set_option maxHeartbeats 4000000

theorem wrap_in {n : Int} (h : -9223372036854775808 ≤ n ∧ n ≤ 9223372036854775807) : IntKind.i64.wrap n = n := Go.IntWalk.i64_in _ h
theorem wrap_succ {k : Nat} (h : k ≤ 1000000000) : IntKind.i64.wrap ((k : Int) + 1) = ((k + 1 : Nat) : Int) := by rw [wrap_in (by omega)]; omega
theorem wrap_pred {k : Nat} (h0 : 0 < k) (h : k ≤ 1000000000) : IntKind.i64.wrap ((k : Int) - 1) = ((k - 1 : Nat) : Int) := by rw [wrap_in (by omega)]; omega
theorem dec_true {p : Prop} [Decidable p] (h : p) : decide p = true := decide_eq_true h
theorem dec_false {p : Prop} [Decidable p] (h : ¬ p) : decide p = false := decide_eq_false h
theorem bb1 : (true == false) = false := rfl
theorem bb2 : (false == true) = false := rfl
attribute [go_sem] bb1 bb2 stC List.flatMap_cons List.flatMap_nil
def pickN (n m : Int) : Int := if m < 1 then 0 else if n.tmod m < 0 then n.tmod m + m else n.tmod m
theorem pickN_in (n : Int) {m : Int} (h : 1 ≤ m) : 0 ≤ pickN n m ∧ pickN n m < m := by
  unfold pickN
  rw [if_neg (by omega)]
  have h1 := Int.tmod_lt_of_pos n (show 0 < m by omega)
  have h2 := Int.lt_tmod_of_pos n (show 0 < m by omega)
  split <;> omega
theorem pick_does (n m : Int) (hm : m ≤ 1000000000) : Does Try.prog 8 [iA n, iA m] (fun w => (iA (pickN n m), w)) := by
  cases h1 : decide (m < 1) with
  | true =>
    have hr : pickN n m = 0 := by unfold pickN; rw [if_pos (of_decide_eq_true h1)]
    refine does_of' Try.func8 rfl (by kernel_rfl) rfl Try.ntmps8 rfl rfl fun Q hQ => ?_
    repeat (first
        | refine tr_seq_k fun _ _ => ?_
        | (refine tr_region ?_; simp only [go_sem, List.getElem?_toArray, str_beq, reduceCtorEq, Nat.reduceEqDiff, Nat.reduceLT, Nat.reduceLeDiff, Nat.reduceAdd, Nat.reduceMul, Nat.reduceSub, Nat.reduceBEq, ↓reduceIte, bne_self_eq_false, Bool.and_false, Bool.false_and, Bool.true_or, Bool.false_or, h1])
        | refine k_of (by assumption) ?_
        | refine tr_block ?_
        | refine tr_scope ?_
        | (refine tr_skip ?_; try simp only [ex_seq, ex_block])
        | (refine tr_label ?_; try simp only [ex_seq, ex_block])
        | (refine tr_exit ?_; try simp only [ex_seq_exit, ex_block_exit, Nat.reduceEqDiff, if_true, if_false, ex_seq, ex_block, reduceCtorEq, ↓reduceIte])
        | (refine tr_ret ?_; try simp only [ex_seq_ret, ex_block_ret]))
    refine tr_cond rfl (fun ht => ?_) (fun hf => ?_)
    · repeat (first
          | refine tr_seq_k fun _ _ => ?_
          | (refine tr_region ?_; simp only [go_sem, List.getElem?_toArray, str_beq, reduceCtorEq, Nat.reduceEqDiff, Nat.reduceLT, Nat.reduceLeDiff, Nat.reduceAdd, Nat.reduceMul, Nat.reduceSub, Nat.reduceBEq, ↓reduceIte, bne_self_eq_false, Bool.and_false, Bool.false_and, Bool.true_or, Bool.false_or])
          | refine k_of (by assumption) ?_
          | refine tr_block ?_
          | refine tr_scope ?_
          | (refine tr_skip ?_; try simp only [ex_seq, ex_block])
          | (refine tr_label ?_; try simp only [ex_seq, ex_block])
          | (refine tr_exit ?_; try simp only [ex_seq_exit, ex_block_exit, Nat.reduceEqDiff, if_true, if_false, ex_seq, ex_block, reduceCtorEq, ↓reduceIte])
          | (refine tr_ret ?_; try simp only [ex_seq_ret, ex_block_ret]))
      refine (hQ _ _ [iA 0] ?_ (fun m => ?_)).2 <;> simp only [go_sem, List.getElem?_toArray, str_beq, reduceCtorEq, Nat.reduceEqDiff, Nat.reduceLT, Nat.reduceLeDiff, Nat.reduceAdd, Nat.reduceMul, Nat.reduceSub, Nat.reduceBEq, ↓reduceIte, bne_self_eq_false, Bool.and_false, Bool.false_and, Bool.true_or, Bool.false_or, Try.f8, hr]
    · cases hf
  | false =>
    have hm1 : 1 ≤ m := by
      have := of_decide_eq_false h1
      omega
    have hq : ¬ m = 0 := by omega
    cases h2 : decide (n.tmod m < 0) with
    | true =>
      have hr : pickN n m = n.tmod m + m := by unfold pickN; rw [if_neg (of_decide_eq_false h1), if_pos (of_decide_eq_true h2)]
      have hb := pickN_in n hm1
      have hw : IntKind.i64.wrap (n.tmod m + m) = n.tmod m + m := wrap_in (by omega)
      refine does_of' Try.func8 rfl (by kernel_rfl) rfl Try.ntmps8 rfl rfl fun Q hQ => ?_
      repeat (first
          | refine tr_seq_k fun _ _ => ?_
          | (refine tr_region ?_; simp only [go_sem, List.getElem?_toArray, str_beq, reduceCtorEq, Nat.reduceEqDiff, Nat.reduceLT, Nat.reduceLeDiff, Nat.reduceAdd, Nat.reduceMul, Nat.reduceSub, Nat.reduceBEq, ↓reduceIte, bne_self_eq_false, Bool.and_false, Bool.false_and, Bool.true_or, Bool.false_or, h1, hq])
          | refine k_of (by assumption) ?_
          | refine tr_block ?_
          | refine tr_scope ?_
          | (refine tr_skip ?_; try simp only [ex_seq, ex_block])
          | (refine tr_label ?_; try simp only [ex_seq, ex_block])
          | (refine tr_exit ?_; try simp only [ex_seq_exit, ex_block_exit, Nat.reduceEqDiff, if_true, if_false, ex_seq, ex_block, reduceCtorEq, ↓reduceIte])
          | (refine tr_ret ?_; try simp only [ex_seq_ret, ex_block_ret]))
      refine tr_cond rfl (fun ht => ?_) (fun hf => ?_)
      · cases ht
      · repeat (first
            | refine tr_seq_k fun _ _ => ?_
            | (refine tr_region ?_; simp only [go_sem, List.getElem?_toArray, str_beq, reduceCtorEq, Nat.reduceEqDiff, Nat.reduceLT, Nat.reduceLeDiff, Nat.reduceAdd, Nat.reduceMul, Nat.reduceSub, Nat.reduceBEq, ↓reduceIte, bne_self_eq_false, Bool.and_false, Bool.false_and, Bool.true_or, Bool.false_or, h1, hq, h2])
            | refine k_of (by assumption) ?_
            | refine tr_block ?_
            | refine tr_scope ?_
            | (refine tr_skip ?_; try simp only [ex_seq, ex_block])
            | (refine tr_label ?_; try simp only [ex_seq, ex_block])
            | (refine tr_exit ?_; try simp only [ex_seq_exit, ex_block_exit, Nat.reduceEqDiff, if_true, if_false, ex_seq, ex_block, reduceCtorEq, ↓reduceIte])
            | (refine tr_ret ?_; try simp only [ex_seq_ret, ex_block_ret]))
        refine tr_cond rfl (fun ht => ?_) (fun hf => ?_)
        · repeat (first
              | refine tr_seq_k fun _ _ => ?_
              | (refine tr_region ?_; simp only [go_sem, List.getElem?_toArray, str_beq, reduceCtorEq, Nat.reduceEqDiff, Nat.reduceLT, Nat.reduceLeDiff, Nat.reduceAdd, Nat.reduceMul, Nat.reduceSub, Nat.reduceBEq, ↓reduceIte, bne_self_eq_false, Bool.and_false, Bool.false_and, Bool.true_or, Bool.false_or, hw])
              | refine k_of (by assumption) ?_
              | refine tr_block ?_
              | refine tr_scope ?_
              | (refine tr_skip ?_; try simp only [ex_seq, ex_block])
              | (refine tr_label ?_; try simp only [ex_seq, ex_block])
              | (refine tr_exit ?_; try simp only [ex_seq_exit, ex_block_exit, Nat.reduceEqDiff, if_true, if_false, ex_seq, ex_block, reduceCtorEq, ↓reduceIte])
              | (refine tr_ret ?_; try simp only [ex_seq_ret, ex_block_ret]))
          refine (hQ _ _ [iA (n.tmod m + m)] ?_ (fun m => ?_)).2 <;> simp only [go_sem, List.getElem?_toArray, str_beq, reduceCtorEq, Nat.reduceEqDiff, Nat.reduceLT, Nat.reduceLeDiff, Nat.reduceAdd, Nat.reduceMul, Nat.reduceSub, Nat.reduceBEq, ↓reduceIte, bne_self_eq_false, Bool.and_false, Bool.false_and, Bool.true_or, Bool.false_or, Try.f8, hr]
        · cases hf
    | false =>
      have hr : pickN n m = n.tmod m := by unfold pickN; rw [if_neg (of_decide_eq_false h1), if_neg (of_decide_eq_false h2)]
      refine does_of' Try.func8 rfl (by kernel_rfl) rfl Try.ntmps8 rfl rfl fun Q hQ => ?_
      repeat (first
          | refine tr_seq_k fun _ _ => ?_
          | (refine tr_region ?_; simp only [go_sem, List.getElem?_toArray, str_beq, reduceCtorEq, Nat.reduceEqDiff, Nat.reduceLT, Nat.reduceLeDiff, Nat.reduceAdd, Nat.reduceMul, Nat.reduceSub, Nat.reduceBEq, ↓reduceIte, bne_self_eq_false, Bool.and_false, Bool.false_and, Bool.true_or, Bool.false_or, h1, hq])
          | refine k_of (by assumption) ?_
          | refine tr_block ?_
          | refine tr_scope ?_
          | (refine tr_skip ?_; try simp only [ex_seq, ex_block])
          | (refine tr_label ?_; try simp only [ex_seq, ex_block])
          | (refine tr_exit ?_; try simp only [ex_seq_exit, ex_block_exit, Nat.reduceEqDiff, if_true, if_false, ex_seq, ex_block, reduceCtorEq, ↓reduceIte])
          | (refine tr_ret ?_; try simp only [ex_seq_ret, ex_block_ret]))
      refine tr_cond rfl (fun ht => ?_) (fun hf => ?_)
      · cases ht
      · repeat (first
            | refine tr_seq_k fun _ _ => ?_
            | (refine tr_region ?_; simp only [go_sem, List.getElem?_toArray, str_beq, reduceCtorEq, Nat.reduceEqDiff, Nat.reduceLT, Nat.reduceLeDiff, Nat.reduceAdd, Nat.reduceMul, Nat.reduceSub, Nat.reduceBEq, ↓reduceIte, bne_self_eq_false, Bool.and_false, Bool.false_and, Bool.true_or, Bool.false_or, h1, hq, h2])
            | refine k_of (by assumption) ?_
            | refine tr_block ?_
            | refine tr_scope ?_
            | (refine tr_skip ?_; try simp only [ex_seq, ex_block])
            | (refine tr_label ?_; try simp only [ex_seq, ex_block])
            | (refine tr_exit ?_; try simp only [ex_seq_exit, ex_block_exit, Nat.reduceEqDiff, if_true, if_false, ex_seq, ex_block, reduceCtorEq, ↓reduceIte])
            | (refine tr_ret ?_; try simp only [ex_seq_ret, ex_block_ret]))
        refine tr_cond rfl (fun ht => ?_) (fun hf => ?_)
        · cases ht
        · repeat (first
              | refine tr_seq_k fun _ _ => ?_
              | (refine tr_region ?_; simp only [go_sem, List.getElem?_toArray, str_beq, reduceCtorEq, Nat.reduceEqDiff, Nat.reduceLT, Nat.reduceLeDiff, Nat.reduceAdd, Nat.reduceMul, Nat.reduceSub, Nat.reduceBEq, ↓reduceIte, bne_self_eq_false, Bool.and_false, Bool.false_and, Bool.true_or, Bool.false_or])
              | refine k_of (by assumption) ?_
              | refine tr_block ?_
              | refine tr_scope ?_
              | (refine tr_skip ?_; try simp only [ex_seq, ex_block])
              | (refine tr_label ?_; try simp only [ex_seq, ex_block])
              | (refine tr_exit ?_; try simp only [ex_seq_exit, ex_block_exit, Nat.reduceEqDiff, if_true, if_false, ex_seq, ex_block, reduceCtorEq, ↓reduceIte])
              | (refine tr_ret ?_; try simp only [ex_seq_ret, ex_block_ret]))
          refine (hQ _ _ [iA (n.tmod m)] ?_ (fun m => ?_)).2 <;> simp only [go_sem, List.getElem?_toArray, str_beq, reduceCtorEq, Nat.reduceEqDiff, Nat.reduceLT, Nat.reduceLeDiff, Nat.reduceAdd, Nat.reduceMul, Nat.reduceSub, Nat.reduceBEq, ↓reduceIte, bne_self_eq_false, Bool.and_false, Bool.false_and, Bool.true_or, Bool.false_or, Try.f8, hr]

/-! ### numbers over a local block -/
def inC (n : Int) : List CV := [.v (.int .i64 n)]
def inB (l : List Int) : Blk := ⟨false, blC inC l⟩
theorem in_get {l : List Int} {i : Nat} (h : i < l.length) : (blC inC l)[i]? = some (iA l[i]) := by
  unfold blC
  have e : ∀ l : List Int, (l.flatMap inC).map AV.c = l.map iA := fun l => by
    induction l with
    | nil => rfl
    | cons x l ih => simp only [List.flatMap_cons, List.map_append, ih]; rfl
  rw [e, List.getElem?_map, List.getElem?_eq_getElem h]
  rfl
theorem in_len (l : List Int) : (blC inC l).length = l.length := by rw [len_blC (size := 1) (fun _ => rfl), Nat.mul_one]
theorem in_set {l : List Int} {i : Nat} (h : i < l.length) (x : Int) : List.take i (blC inC l) ++ [iA x] ++ List.drop (i + 1) (blC inC l) = blC inC (l.set i x) := by
  have := set_blC (enc := inC) (size := 1) (fun _ => rfl) h x
  rw [Nat.mul_one] at this
  exact this
theorem in_idx {t : TypeId} (ht : Try.prog.underlying t = some (.slice 3)) {b n i : Nat} (h : i < n) : aIndexL Try.prog t (.lsl b 0 n 1) (iA i) = some (.ptr b i) := by
  have := idxL (P := Try.prog) (size := 1) ht sz3 (by decide) (b := b) (lo := 0) (ik := .i64) h
  simpa using this
theorem in_fit {l : List Int} {i : Nat} (h : i < l.length) : (i + 1 ≤ (blC inC l).length) = True := eq_true (by rw [in_len]; omega)

theorem len_gives (m : Mm) (b n : Nat) : GivesW Try.prog 29 [.lsl b 0 n 1] m (iA n) m := by
  refine givesW_of' Try.func29 rfl (by kernel_rfl) Try.ntmps29 rfl rfl fun Q hQ => ?_
  repeat (first
      | refine tr_seq_k fun _ _ => ?_
      | (refine tr_region ?_; simp only [go_sem, List.getElem?_toArray, str_beq, reduceCtorEq, Nat.reduceEqDiff, Nat.reduceLT, Nat.reduceLeDiff, Nat.reduceAdd, Nat.reduceMul, Nat.reduceSub, Nat.reduceBEq, ↓reduceIte, bne_self_eq_false, Bool.and_false, Bool.false_and, Bool.true_or, Bool.false_or])
      | refine k_of (by assumption) ?_
      | refine tr_block ?_
      | refine tr_scope ?_
      | (refine tr_skip ?_; try simp only [ex_seq, ex_block])
      | (refine tr_label ?_; try simp only [ex_seq, ex_block])
      | (refine tr_exit ?_; try simp only [ex_seq_exit, ex_block_exit, Nat.reduceEqDiff, if_true, if_false, ex_seq, ex_block, reduceCtorEq, ↓reduceIte])
      | (refine tr_ret ?_; try simp only [ex_seq_ret, ex_block_ret]))
  refine (hQ _ _ [iA n] ?_ rfl rfl).2 <;> simp only [go_sem, List.getElem?_toArray, str_beq, reduceCtorEq, Nat.reduceEqDiff, Nat.reduceLT, Nat.reduceLeDiff, Nat.reduceAdd, Nat.reduceMul, Nat.reduceSub, Nat.reduceBEq, ↓reduceIte, bne_self_eq_false, Bool.and_false, Bool.false_and, Bool.true_or, Bool.false_or, Try.f29]
theorem lenN_gives (m : Mm) : GivesW Try.prog 29 [.c (.sl true 0 [])] m (iA ((0 : Nat) : Int)) m := by
  refine givesW_of' Try.func29 rfl (by kernel_rfl) Try.ntmps29 rfl rfl fun Q hQ => ?_
  repeat (first
      | refine tr_seq_k fun _ _ => ?_
      | (refine tr_region ?_; simp only [go_sem, List.getElem?_toArray, str_beq, reduceCtorEq, Nat.reduceEqDiff, Nat.reduceLT, Nat.reduceLeDiff, Nat.reduceAdd, Nat.reduceMul, Nat.reduceSub, Nat.reduceBEq, ↓reduceIte, bne_self_eq_false, Bool.and_false, Bool.false_and, Bool.true_or, Bool.false_or])
      | refine k_of (by assumption) ?_
      | refine tr_block ?_
      | refine tr_scope ?_
      | (refine tr_skip ?_; try simp only [ex_seq, ex_block])
      | (refine tr_label ?_; try simp only [ex_seq, ex_block])
      | (refine tr_exit ?_; try simp only [ex_seq_exit, ex_block_exit, Nat.reduceEqDiff, if_true, if_false, ex_seq, ex_block, reduceCtorEq, ↓reduceIte])
      | (refine tr_ret ?_; try simp only [ex_seq_ret, ex_block_ret]))
  refine (hQ _ _ [iA ((0 : Nat) : Int)] ?_ rfl rfl).2 <;> simp only [go_sem, List.getElem?_toArray, str_beq, reduceCtorEq, Nat.reduceEqDiff, Nat.reduceLT, Nat.reduceLeDiff, Nat.reduceAdd, Nat.reduceMul, Nat.reduceSub, Nat.reduceBEq, ↓reduceIte, bne_self_eq_false, Bool.and_false, Bool.false_and, Bool.true_or, Bool.false_or, Try.f29]
theorem less_gives {m : Mm} {b n : Nat} {l : List Int} (hb : m.hp[b]? = some (inB l)) (hn : n ≤ l.length) {i k : Nat} (hi : i < n) (hk : k < n) :
    GivesW Try.prog 79 [.lsl b 0 n 1, iA i, iA k] m (bA (decide (l[i] < l[k]))) m := by
  have i1 := in_idx Try.underlying58 (b := b) hi
  have i2 := in_idx Try.underlying58 (b := b) hk
  have g1 := in_get (l := l) (i := i) (by omega)
  have g2 := in_get (l := l) (i := k) (by omega)
  refine givesW_of' Try.func79 rfl (by kernel_rfl) Try.ntmps79 rfl rfl fun Q hQ => ?_
  repeat (first
      | refine tr_seq_k fun _ _ => ?_
      | (refine tr_region ?_; simp only [go_sem, List.getElem?_toArray, str_beq, reduceCtorEq, Nat.reduceEqDiff, Nat.reduceLT, Nat.reduceLeDiff, Nat.reduceAdd, Nat.reduceMul, Nat.reduceSub, Nat.reduceBEq, ↓reduceIte, bne_self_eq_false, Bool.and_false, Bool.false_and, Bool.true_or, Bool.false_or, i1, i2, hb, inB, g1, g2])
      | (refine tr_drawC (id := 1) follows 10000 (by kernel_rfl) ?_; simp only [go_sem, List.getElem?_toArray, str_beq, reduceCtorEq, Nat.reduceEqDiff, Nat.reduceLT, Nat.reduceLeDiff, Nat.reduceAdd, Nat.reduceMul, Nat.reduceSub, Nat.reduceBEq, ↓reduceIte, bne_self_eq_false, Bool.and_false, Bool.false_and, Bool.true_or, Bool.false_or, i1, i2, hb, inB, g1, g2])
      | refine k_of (by assumption) ?_
      | refine tr_block ?_
      | refine tr_scope ?_
      | (refine tr_skip ?_; try simp only [ex_seq, ex_block])
      | (refine tr_label ?_; try simp only [ex_seq, ex_block])
      | (refine tr_exit ?_; try simp only [ex_seq_exit, ex_block_exit, Nat.reduceEqDiff, if_true, if_false, ex_seq, ex_block, reduceCtorEq, ↓reduceIte])
      | (refine tr_ret ?_; try simp only [ex_seq_ret, ex_block_ret]))
  refine (hQ _ _ [bA (decide (l[i] < l[k]))] ?_ rfl rfl).2 <;> simp only [go_sem, List.getElem?_toArray, str_beq, reduceCtorEq, Nat.reduceEqDiff, Nat.reduceLT, Nat.reduceLeDiff, Nat.reduceAdd, Nat.reduceMul, Nat.reduceSub, Nat.reduceBEq, ↓reduceIte, bne_self_eq_false, Bool.and_false, Bool.false_and, Bool.true_or, Bool.false_or, Try.f79]
theorem swap_gives {m : Mm} {b n : Nat} {l : List Int} (hb : m.hp[b]? = some (inB l)) (hn : n ≤ l.length) {i k : Nat} (hi : i < n) (hk : k < n) :
    GivesW Try.prog 82 [.lsl b 0 n 1, iA i, iA k] m (.tup []) { m with hp := m.hp.set b (inB (swapL l i k)) } := by
  have i1 := in_idx Try.underlying58 (b := b) hi
  have i2 := in_idx Try.underlying58 (b := b) hk
  have g1 := in_get (l := l) (i := i) (by omega)
  have g2 := in_get (l := l) (i := k) (by omega)
  have hbl := (List.getElem?_eq_some_iff.1 hb).1
  have hbs : ∀ x, (m.hp.set b x)[b]? = some x := fun x => List.getElem?_set_self hbl
  have s1 := in_set (l := l) (i := i) (by omega)
  have s2 := in_set (l := l.set i l[k]) (i := k) (by simp; omega)
  have f1 := in_fit (l := l) (i := i) (by omega)
  have f2 := in_fit (l := l.set i l[k]) (i := k) (by simp; omega)
  have e : (l.set i l[k]).set k l[i] = swapL l i k := by
    unfold swapL
    rw [List.getD_eq_getElem?_getD, List.getD_eq_getElem?_getD, List.getElem?_eq_getElem (show i < l.length by omega), List.getElem?_eq_getElem (show k < l.length by omega)]
    rfl
  refine givesW_of' Try.func82 rfl (by kernel_rfl) Try.ntmps82 rfl rfl fun Q hQ => ?_
  repeat (first
      | refine tr_seq_k fun _ _ => ?_
      | (refine tr_region ?_; simp only [go_sem, List.getElem?_toArray, str_beq, reduceCtorEq, Nat.reduceEqDiff, Nat.reduceLT, Nat.reduceLeDiff, Nat.reduceAdd, Nat.reduceMul, Nat.reduceSub, Nat.reduceBEq, ↓reduceIte, bne_self_eq_false, Bool.and_false, Bool.false_and, Bool.true_or, Bool.false_or, i1, i2, hb, inB, g1, g2, s1, f1, hbs, s2, f2, List.set_set])
      | (refine tr_drawS (id := 0) follows 13 [.op 13, .op 14, .op 15] (by kernel_rfl) ?_; simp only [go_sem, List.getElem?_toArray, str_beq, reduceCtorEq, Nat.reduceEqDiff, Nat.reduceLT, Nat.reduceLeDiff, Nat.reduceAdd, Nat.reduceMul, Nat.reduceSub, Nat.reduceBEq, ↓reduceIte, bne_self_eq_false, Bool.and_false, Bool.false_and, Bool.true_or, Bool.false_or, i1, i2, hb, inB, g1, g2, s1, f1, hbs, s2, f2, List.set_set])
      | refine k_of (by assumption) ?_
      | refine tr_block ?_
      | refine tr_scope ?_
      | (refine tr_skip ?_; try simp only [ex_seq, ex_block])
      | (refine tr_label ?_; try simp only [ex_seq, ex_block])
      | (refine tr_exit ?_; try simp only [ex_seq_exit, ex_block_exit, Nat.reduceEqDiff, if_true, if_false, ex_seq, ex_block, reduceCtorEq, ↓reduceIte])
      | (refine tr_ret ?_; try simp only [ex_seq_ret, ex_block_ret]))
  refine (hQ _ _ [] rfl ?_ ?_).1
  · rfl
  · rw [e]
    rfl
end Go.Proofs.Ytlhlcfijpdknfaa

/-
  Chapter 2: container/heap over a slice of numbers: down, up.
-/
set_option linter.unusedSimpArgs false
set_option linter.unusedVariables false
namespace Go.Proofs.Ytlhlcfijpdknfaa
open Go.Vs Go.Vs.Ab Go.Vs.Hp
set_option maxRecDepth 100000
set_option maxHeartbeats 4000000

theorem mr_len : mRow Try.prog 67 "Len" = some (29, some (60, 0, 58)) := by kernel_rfl
theorem mr_less : mRow Try.prog 67 "Less" = some (79, some (60, 0, 58)) := by kernel_rfl
theorem mr_swap : mRow Try.prog 67 "Swap" = some (82, some (60, 0, 58)) := by kernel_rfl
theorem mr_push : mRow Try.prog 67 "Push" = some (81, none) := by kernel_rfl
theorem mr_pop : mRow Try.prog 67 "Pop" = some (80, none) := by kernel_rfl
attribute [go_sem] mr_len mr_less mr_swap mr_push mr_pop
/-- The memory, with these numbers in block h. -/
def mS (m : Mm) (h : Nat) (L : List Int) : Mm := ⟨m.hp.set h (inB L), m.hw⟩
theorem mS_h {m : Mm} {h : Nat} (hh : h < m.hp.length) (L : List Int) : (mS m h L).hp[h]? = some (inB L) := List.getElem?_set_self hh
theorem mS_b {m : Mm} {h b : Nat} (hb : b ≠ h) (L : List Int) : (mS m h L).hp[b]? = m.hp[b]? := List.getElem?_set_ne (Ne.symm hb)
theorem mS_mS (m : Mm) (h : Nat) (L K : List Int) : (⟨(mS m h L).hp.set h (inB K), (mS m h L).hw⟩ : Mm) = mS m h K := by simp [mS]
theorem mS_self {m : Mm} {h : Nat} {L : List Int} (hh : m.hp[h]? = some (inB L)) : mS m h L = m := by
  obtain ⟨hp, hw⟩ := m
  simp only [mS, Mm.mk.injEq, and_true]
  apply List.ext_getElem?
  intro i
  rw [List.getElem?_set]
  split
  · rename_i e
    subst e
    split
    · exact hh.symm
    · rename_i hl
      rw [List.getElem?_eq_none (by simpa using hl)]
  · rfl

/-- What lies in memory leads to memory that is there. -/
def Wf (m : Mm) : Prop := lowB m.hp.length m.hw.length m.hp = true
theorem lowB_set {i j : Nat} {nb : Blk} (hn : lows i j nb.cs = true) : ∀ {l : List Blk} (k : Nat), lowB i j l = true → lowB i j (l.set k nb) = true
  | [], k, _ => by simp [lowB]
  | x :: r, 0, h => by
    simp only [lowB, Bool.and_eq_true] at h
    simp only [List.set_cons_zero, lowB, hn, h.2, Bool.and_self]
  | x :: r, k + 1, h => by
    simp only [lowB, Bool.and_eq_true] at h
    simp only [List.set_cons_succ, lowB, h.1, lowB_set hn k h.2, Bool.and_self]
theorem Wf.mS {m : Mm} (h : Wf m) (k : Nat) (L : List Int) : Wf (mS m k L) := by
  unfold Wf Go.Proofs.Ytlhlcfijpdknfaa.mS
  rw [List.length_set]
  exact lowB_set lows_blC k h
theorem mS_len (m : Mm) (h : Nat) (L : List Int) : (mS m h L).hp.length = m.hp.length := List.length_set ..
theorem getD_eq {L : List Int} {i : Nat} (h : i < L.length) : L.getD i 0 = L[i] := by
  rw [List.getD_eq_getElem?_getD, List.getElem?_eq_getElem h]
  rfl

theorem lessS {m : Mm} {h n : Nat} {L : List Int} (hh : h < m.hp.length) (hn : n ≤ L.length) {i k : Nat} (hi : i < n) (hk : k < n) :
    GivesW Try.prog 79 [.lsl h 0 n 1, iA i, iA k] (mS m h L) (bA (decide (L.getD i 0 < L.getD k 0))) (mS m h L) := by
  rw [getD_eq (show i < L.length by omega), getD_eq (show k < L.length by omega)]
  exact less_gives (mS_h hh L) hn hi hk
theorem swapS {m : Mm} {h n : Nat} {L : List Int} (hh : h < m.hp.length) (hn : n ≤ L.length) {i k : Nat} (hi : i < n) (hk : k < n) :
    GivesW Try.prog 82 [.lsl h 0 n 1, iA i, iA k] (mS m h L) (.tup []) (mS m h (swapL L i k)) := by
  have := swap_gives (mS_h hh L) hn hi hk
  rw [mS_mS] at this
  exact this

theorem down_gives {m : Mm} {h b N n : Nat} {L : List Int} {rest : List AV} (hh : h < m.hp.length) (hb : m.hp[b]? = some ⟨false, .lsl h 0 N 1 :: rest⟩) (hbh : b ≠ h) (hN : N ≤ L.length) (hn : n ≤ N) (hM : N ≤ 1000000) (hW : Wf m) :
    GivesW Try.prog 37 [.ifc 67 (.ptr b 0), iA ((0 : Nat) : Int), iA n] (mS m h L) (bA (decide (((0 : Nat) : Int) < ((downF n L 0 n).2 : Nat)))) (mS m h (downF n L 0 n).1) := by
  have hbl := (List.getElem?_eq_some_iff.1 hb).1
  refine givesW_of' Try.func37 rfl (by kernel_rfl) Try.ntmps37 rfl rfl fun Q hQ => ?_
  repeat (first
      | refine tr_seq_k fun _ _ => ?_
      | (refine tr_region ?_; simp only [go_sem, List.getElem?_toArray, str_beq, reduceCtorEq, Nat.reduceEqDiff, Nat.reduceLT, Nat.reduceLeDiff, Nat.reduceAdd, Nat.reduceMul, Nat.reduceSub, Nat.reduceBEq, ↓reduceIte, bne_self_eq_false, Bool.and_false, Bool.false_and, Bool.true_or, Bool.false_or])
      | refine k_of (by assumption) ?_
      | refine tr_block ?_
      | refine tr_scope ?_
      | (refine tr_skip ?_; try simp only [ex_seq, ex_block])
      | (refine tr_label ?_; try simp only [ex_seq, ex_block])
      | (refine tr_exit ?_; try simp only [ex_seq_exit, ex_block_exit, Nat.reduceEqDiff, if_true, if_false, ex_seq, ex_block, reduceCtorEq, ↓reduceIte])
      | (refine tr_ret ?_; try simp only [ex_seq_ret, ex_block_ret]))
  refine tr_loop_k (σ := List Int × Nat × Nat) (fun s => [(0, .ifc 67 (.ptr b 0)), (1, iA ((0 : Nat) : Int)), (2, iA n), (7, iA s.2.1)]) (fun s => mS m h s.1)
    (fun s => n ≤ s.2.2 + s.2.1 ∧ s.2.1 ≤ n ∧ s.1.length = L.length ∧ downF s.2.2 s.1 s.2.1 n = downF n L 0 n) (fun s => n - s.2.1) (L, 0, n) ⟨by dsimp only; omega, Nat.zero_le _, rfl, rfl⟩ ⟨rfl, rfl, rfl, rfl, trivial⟩ rfl ?_
  rintro ⟨L', i, f⟩ ⟨hf, hi, hl, hd⟩ K hK
  dsimp only at hf hi hl hd hK
  have w1 : IntKind.i64.wrap (2 * (i : Int)) = ((2 * i : Nat) : Int) := by rw [wrap_in (by omega)]; omega
  have w2 : IntKind.i64.wrap (((2 * i : Nat) : Int) + 1) = ((2 * i + 1 : Nat) : Int) := wrap_succ (by omega)
  have gb : (mS m h L').hp[b]? = some ⟨false, .lsl h 0 N 1 :: rest⟩ := by rw [mS_b hbh]; exact hb
  cases h1 : decide (((2 * i + 1 : Nat) : Int) ≥ (n : Int)) with
  | true =>
    have h1' : n ≤ 2 * i + 1 := by
      have := of_decide_eq_true h1
      omega
    have hR : downF n L 0 n = (L', i) := by
      rw [← hd]
      cases f with
      | zero => rfl
      | succ f => simp only [downF, h1', if_true]
    repeat (first
        | refine tr_seq_k fun _ _ => ?_
        | (refine tr_region ?_; simp only [go_sem, List.getElem?_toArray, str_beq, reduceCtorEq, Nat.reduceEqDiff, Nat.reduceLT, Nat.reduceLeDiff, Nat.reduceAdd, Nat.reduceMul, Nat.reduceSub, Nat.reduceBEq, ↓reduceIte, bne_self_eq_false, Bool.and_false, Bool.false_and, Bool.true_or, Bool.false_or, w1, w2, h1])
        | refine k_of (by assumption) ?_
        | refine tr_block ?_
        | refine tr_scope ?_
        | (refine tr_skip ?_; try simp only [ex_seq, ex_block])
        | (refine tr_label ?_; try simp only [ex_seq, ex_block])
        | (refine tr_exit ?_; try simp only [ex_seq_exit, ex_block_exit, Nat.reduceEqDiff, if_true, if_false, ex_seq, ex_block, reduceCtorEq, ↓reduceIte])
        | (refine tr_ret ?_; try simp only [ex_seq_ret, ex_block_ret]))
    refine tr_cond rfl (fun ht => ?_) (fun hf => ?_)
    · repeat (first
          | refine tr_seq_k fun _ _ => ?_
          | (refine tr_region ?_; simp only [go_sem, List.getElem?_toArray, str_beq, reduceCtorEq, Nat.reduceEqDiff, Nat.reduceLT, Nat.reduceLeDiff, Nat.reduceAdd, Nat.reduceMul, Nat.reduceSub, Nat.reduceBEq, ↓reduceIte, bne_self_eq_false, Bool.and_false, Bool.false_and, Bool.true_or, Bool.false_or])
          | refine k_of (by assumption) ?_
          | refine tr_block ?_
          | refine tr_scope ?_
          | (refine tr_skip ?_; try simp only [ex_seq, ex_block])
          | (refine tr_label ?_; try simp only [ex_seq, ex_block])
          | (refine tr_exit ?_; try simp only [ex_seq_exit, ex_block_exit, Nat.reduceEqDiff, if_true, if_false, ex_seq, ex_block, reduceCtorEq, ↓reduceIte])
          | (refine tr_ret ?_; try simp only [ex_seq_ret, ex_block_ret]))
      refine (hQ _ _ [bA (decide (((0 : Nat) : Int) < (i : Int)))] ?_ (by rw [hR]; rfl) (by rw [hR])).2 <;> simp only [go_sem, List.getElem?_toArray, str_beq, reduceCtorEq, Nat.reduceEqDiff, Nat.reduceLT, Nat.reduceLeDiff, Nat.reduceAdd, Nat.reduceMul, Nat.reduceSub, Nat.reduceBEq, ↓reduceIte, bne_self_eq_false, Bool.and_false, Bool.false_and, Bool.true_or, Bool.false_or, Try.f37]
    · cases hf
  | false =>
    have h1' : ¬ n ≤ 2 * i + 1 := by
      have := of_decide_eq_false h1
      omega
    have h0 : decide (((2 * i + 1 : Nat) : Int) < 0) = false := decide_eq_false (by omega)
    have w3 : IntKind.i64.wrap (((2 * i + 1 : Nat) : Int) + 1) = ((2 * i + 1 + 1 : Nat) : Int) := wrap_succ (by omega)
    have hfs : ∃ f', f = f' + 1 := ⟨f - 1, by omega⟩
    obtain ⟨f, rfl⟩ := hfs
    have hin : i < N := by omega
    have hj1 : 2 * i + 1 < N := by omega
    have hlN : N ≤ L'.length := by omega
    repeat (first
        | refine tr_seq_k fun _ _ => ?_
        | (refine tr_region ?_; simp only [go_sem, List.getElem?_toArray, str_beq, reduceCtorEq, Nat.reduceEqDiff, Nat.reduceLT, Nat.reduceLeDiff, Nat.reduceAdd, Nat.reduceMul, Nat.reduceSub, Nat.reduceBEq, ↓reduceIte, bne_self_eq_false, Bool.and_false, Bool.false_and, Bool.true_or, Bool.false_or, w1, w2, h1, h0])
        | refine k_of (by assumption) ?_
        | refine tr_block ?_
        | refine tr_scope ?_
        | (refine tr_skip ?_; try simp only [ex_seq, ex_block])
        | (refine tr_label ?_; try simp only [ex_seq, ex_block])
        | (refine tr_exit ?_; try simp only [ex_seq_exit, ex_block_exit, Nat.reduceEqDiff, if_true, if_false, ex_seq, ex_block, reduceCtorEq, ↓reduceIte])
        | (refine tr_ret ?_; try simp only [ex_seq_ret, ex_block_ret]))
    refine tr_cond rfl (fun ht => ?_) (fun hf => ?_)
    · cases ht
    · cases h2 : decide (((2 * i + 1 + 1 : Nat) : Int) < (n : Int)) with
      | false =>
        have h2' : ¬ 2 * i + 1 + 1 < n := by
          have := of_decide_eq_false h2
          omega
        repeat (first
            | refine tr_seq_k fun _ _ => ?_
            | (refine tr_region ?_; simp only [go_sem, List.getElem?_toArray, str_beq, reduceCtorEq, Nat.reduceEqDiff, Nat.reduceLT, Nat.reduceLeDiff, Nat.reduceAdd, Nat.reduceMul, Nat.reduceSub, Nat.reduceBEq, ↓reduceIte, bne_self_eq_false, Bool.and_false, Bool.false_and, Bool.true_or, Bool.false_or, w1, w2, w3, h2])
            | refine k_of (by assumption) ?_
            | refine tr_block ?_
            | refine tr_scope ?_
            | (refine tr_skip ?_; try simp only [ex_seq, ex_block])
            | (refine tr_label ?_; try simp only [ex_seq, ex_block])
            | (refine tr_exit ?_; try simp only [ex_seq_exit, ex_block_exit, Nat.reduceEqDiff, if_true, if_false, ex_seq, ex_block, reduceCtorEq, ↓reduceIte])
            | (refine tr_ret ?_; try simp only [ex_seq_ret, ex_block_ret]))
        refine tr_cond rfl (fun ht => ?_) (fun hf => ?_)
        · cases ht
        · have hJe : (if 2 * i + 1 + 1 < n ∧ L'.getD (2 * i + 1 + 1) 0 < L'.getD (2 * i + 1) 0 then 2 * i + 1 + 1 else 2 * i + 1) = 2 * i + 1 := if_neg (fun h => h2' h.1)
          obtain ⟨J, hJ0⟩ : ∃ J, J = 2 * i + 1 := ⟨_, rfl⟩
          have hJn : J < n := by omega
          have hiJ : i < J := by omega
          have hJe := hJe.trans hJ0.symm
          rw [← hJ0]
          repeat (first
              | refine tr_seq_k fun _ _ => ?_
              | (refine tr_region ?_; simp only [go_sem, List.getElem?_toArray, str_beq, reduceCtorEq, Nat.reduceEqDiff, Nat.reduceLT, Nat.reduceLeDiff, Nat.reduceAdd, Nat.reduceMul, Nat.reduceSub, Nat.reduceBEq, ↓reduceIte, bne_self_eq_false, Bool.and_false, Bool.false_and, Bool.true_or, Bool.false_or, gb])
              | (refine call_givesW (lessS hh hlN (show J < N by omega) hin) ?_; (try dsimp only); (try simp only [go_sem, List.getElem?_toArray, str_beq, reduceCtorEq, Nat.reduceEqDiff, Nat.reduceLT, Nat.reduceLeDiff, Nat.reduceAdd, Nat.reduceMul, Nat.reduceSub, Nat.reduceBEq, ↓reduceIte, bne_self_eq_false, Bool.and_false, Bool.false_and, Bool.true_or, Bool.false_or, gb]))
              | refine k_of (by assumption) ?_
              | refine tr_block ?_
              | refine tr_scope ?_
              | (refine tr_skip ?_; try simp only [ex_seq, ex_block])
              | (refine tr_label ?_; try simp only [ex_seq, ex_block])
              | (refine tr_exit ?_; try simp only [ex_seq_exit, ex_block_exit, Nat.reduceEqDiff, if_true, if_false, ex_seq, ex_block, reduceCtorEq, ↓reduceIte])
              | (refine tr_ret ?_; try simp only [ex_seq_ret, ex_block_ret]))
          refine tr_cond rfl (fun ht => ?_) (fun hf => ?_)
          · have hlt : ¬ L'.getD J 0 < L'.getD i 0 := by simpa using ht
            have hR : downF n L 0 n = (L', i) := by
              rw [← hd]
              simp only [downF, h1', if_false, hJe, hlt]
            repeat (first
                | refine tr_seq_k fun _ _ => ?_
                | (refine tr_region ?_; simp only [go_sem, List.getElem?_toArray, str_beq, reduceCtorEq, Nat.reduceEqDiff, Nat.reduceLT, Nat.reduceLeDiff, Nat.reduceAdd, Nat.reduceMul, Nat.reduceSub, Nat.reduceBEq, ↓reduceIte, bne_self_eq_false, Bool.and_false, Bool.false_and, Bool.true_or, Bool.false_or])
                | refine k_of (by assumption) ?_
                | refine tr_block ?_
                | refine tr_scope ?_
                | (refine tr_skip ?_; try simp only [ex_seq, ex_block])
                | (refine tr_label ?_; try simp only [ex_seq, ex_block])
                | (refine tr_exit ?_; try simp only [ex_seq_exit, ex_block_exit, Nat.reduceEqDiff, if_true, if_false, ex_seq, ex_block, reduceCtorEq, ↓reduceIte])
                | (refine tr_ret ?_; try simp only [ex_seq_ret, ex_block_ret]))
            refine (hQ _ _ [bA (decide (((0 : Nat) : Int) < (i : Int)))] ?_ (by rw [hR]; rfl) (by rw [hR])).2 <;> simp only [go_sem, List.getElem?_toArray, str_beq, reduceCtorEq, Nat.reduceEqDiff, Nat.reduceLT, Nat.reduceLeDiff, Nat.reduceAdd, Nat.reduceMul, Nat.reduceSub, Nat.reduceBEq, ↓reduceIte, bne_self_eq_false, Bool.and_false, Bool.false_and, Bool.true_or, Bool.false_or, Try.f37]
          · have hlt : L'.getD J 0 < L'.getD i 0 := by simpa using hf
            have hR : downF f (swapL L' i J) J n = downF n L 0 n := by
              rw [← hd]
              simp only [downF, h1', if_false, hJe, hlt, if_true]
            repeat (first
                | refine tr_seq_k fun _ _ => ?_
                | (refine tr_region ?_; simp only [go_sem, List.getElem?_toArray, str_beq, reduceCtorEq, Nat.reduceEqDiff, Nat.reduceLT, Nat.reduceLeDiff, Nat.reduceAdd, Nat.reduceMul, Nat.reduceSub, Nat.reduceBEq, ↓reduceIte, bne_self_eq_false, Bool.and_false, Bool.false_and, Bool.true_or, Bool.false_or, gb])
                | (refine call_givesW (swapS hh hlN hin (show J < N by omega)) ?_; (try dsimp only); (try simp only [go_sem, List.getElem?_toArray, str_beq, reduceCtorEq, Nat.reduceEqDiff, Nat.reduceLT, Nat.reduceLeDiff, Nat.reduceAdd, Nat.reduceMul, Nat.reduceSub, Nat.reduceBEq, ↓reduceIte, bne_self_eq_false, Bool.and_false, Bool.false_and, Bool.true_or, Bool.false_or, gb]))
                | refine k_of (by assumption) ?_
                | refine tr_block ?_
                | refine tr_scope ?_
                | (refine tr_skip ?_; try simp only [ex_seq, ex_block])
                | (refine tr_label ?_; try simp only [ex_seq, ex_block])
                | (refine tr_exit ?_; try simp only [ex_seq_exit, ex_block_exit, Nat.reduceEqDiff, if_true, if_false, ex_seq, ex_block, reduceCtorEq, ↓reduceIte])
                | (refine tr_ret ?_; try simp only [ex_seq_ret, ex_block_ret]))
            exact hK (swapL L' i J, J, f) _ _ ⟨by dsimp only; omega, by dsimp only; omega, by rw [swapL_len]; exact hl, hR⟩ ⟨⟨rfl, rfl, rfl, rfl, trivial⟩, Keep.refl _, by simp only [lowF, low, mS_len, Bool.and_true, Bool.true_and, Nat.blt_eq]; exact hbl, hW.mS _ _, by rw [mS_len, mS_len]; exact Nat.le_refl _, Nat.le_refl _⟩ (by dsimp only; omega)
      | true =>
        have h2' : 2 * i + 1 + 1 < n := by
          have := of_decide_eq_true h2
          omega
        repeat (first
            | refine tr_seq_k fun _ _ => ?_
            | (refine tr_region ?_; simp only [go_sem, List.getElem?_toArray, str_beq, reduceCtorEq, Nat.reduceEqDiff, Nat.reduceLT, Nat.reduceLeDiff, Nat.reduceAdd, Nat.reduceMul, Nat.reduceSub, Nat.reduceBEq, ↓reduceIte, bne_self_eq_false, Bool.and_false, Bool.false_and, Bool.true_or, Bool.false_or, w1, w2, w3, h2, gb])
            | (refine call_givesW (lessS hh hlN (show 2 * i + 1 + 1 < N by omega) hj1) ?_; (try dsimp only); (try simp only [go_sem, List.getElem?_toArray, str_beq, reduceCtorEq, Nat.reduceEqDiff, Nat.reduceLT, Nat.reduceLeDiff, Nat.reduceAdd, Nat.reduceMul, Nat.reduceSub, Nat.reduceBEq, ↓reduceIte, bne_self_eq_false, Bool.and_false, Bool.false_and, Bool.true_or, Bool.false_or, w1, w2, w3, h2, gb]))
            | refine k_of (by assumption) ?_
            | refine tr_block ?_
            | refine tr_scope ?_
            | (refine tr_skip ?_; try simp only [ex_seq, ex_block])
            | (refine tr_label ?_; try simp only [ex_seq, ex_block])
            | (refine tr_exit ?_; try simp only [ex_seq_exit, ex_block_exit, Nat.reduceEqDiff, if_true, if_false, ex_seq, ex_block, reduceCtorEq, ↓reduceIte])
            | (refine tr_ret ?_; try simp only [ex_seq_ret, ex_block_ret]))
        refine tr_cond rfl (fun ht => ?_) (fun hf => ?_)
        · have hJe : (if 2 * i + 1 + 1 < n ∧ L'.getD (2 * i + 1 + 1) 0 < L'.getD (2 * i + 1) 0 then 2 * i + 1 + 1 else 2 * i + 1) = 2 * i + 1 + 1 := if_pos ⟨h2', of_decide_eq_true ht⟩
          obtain ⟨J, hJ0⟩ : ∃ J, J = 2 * i + 1 + 1 := ⟨_, rfl⟩
          have hJn : J < n := by omega
          have hiJ : i < J := by omega
          have hJe := hJe.trans hJ0.symm
          rw [← hJ0]
          repeat (first
              | refine tr_seq_k fun _ _ => ?_
              | (refine tr_region ?_; simp only [go_sem, List.getElem?_toArray, str_beq, reduceCtorEq, Nat.reduceEqDiff, Nat.reduceLT, Nat.reduceLeDiff, Nat.reduceAdd, Nat.reduceMul, Nat.reduceSub, Nat.reduceBEq, ↓reduceIte, bne_self_eq_false, Bool.and_false, Bool.false_and, Bool.true_or, Bool.false_or, gb])
              | (refine call_givesW (lessS hh hlN (show J < N by omega) hin) ?_; (try dsimp only); (try simp only [go_sem, List.getElem?_toArray, str_beq, reduceCtorEq, Nat.reduceEqDiff, Nat.reduceLT, Nat.reduceLeDiff, Nat.reduceAdd, Nat.reduceMul, Nat.reduceSub, Nat.reduceBEq, ↓reduceIte, bne_self_eq_false, Bool.and_false, Bool.false_and, Bool.true_or, Bool.false_or, gb]))
              | refine k_of (by assumption) ?_
              | refine tr_block ?_
              | refine tr_scope ?_
              | (refine tr_skip ?_; try simp only [ex_seq, ex_block])
              | (refine tr_label ?_; try simp only [ex_seq, ex_block])
              | (refine tr_exit ?_; try simp only [ex_seq_exit, ex_block_exit, Nat.reduceEqDiff, if_true, if_false, ex_seq, ex_block, reduceCtorEq, ↓reduceIte])
              | (refine tr_ret ?_; try simp only [ex_seq_ret, ex_block_ret]))
          refine tr_cond rfl (fun ht => ?_) (fun hf => ?_)
          · have hlt : ¬ L'.getD J 0 < L'.getD i 0 := by simpa using ht
            have hR : downF n L 0 n = (L', i) := by
              rw [← hd]
              simp only [downF, h1', if_false, hJe, hlt]
            repeat (first
                | refine tr_seq_k fun _ _ => ?_
                | (refine tr_region ?_; simp only [go_sem, List.getElem?_toArray, str_beq, reduceCtorEq, Nat.reduceEqDiff, Nat.reduceLT, Nat.reduceLeDiff, Nat.reduceAdd, Nat.reduceMul, Nat.reduceSub, Nat.reduceBEq, ↓reduceIte, bne_self_eq_false, Bool.and_false, Bool.false_and, Bool.true_or, Bool.false_or])
                | refine k_of (by assumption) ?_
                | refine tr_block ?_
                | refine tr_scope ?_
                | (refine tr_skip ?_; try simp only [ex_seq, ex_block])
                | (refine tr_label ?_; try simp only [ex_seq, ex_block])
                | (refine tr_exit ?_; try simp only [ex_seq_exit, ex_block_exit, Nat.reduceEqDiff, if_true, if_false, ex_seq, ex_block, reduceCtorEq, ↓reduceIte])
                | (refine tr_ret ?_; try simp only [ex_seq_ret, ex_block_ret]))
            refine (hQ _ _ [bA (decide (((0 : Nat) : Int) < (i : Int)))] ?_ (by rw [hR]; rfl) (by rw [hR])).2 <;> simp only [go_sem, List.getElem?_toArray, str_beq, reduceCtorEq, Nat.reduceEqDiff, Nat.reduceLT, Nat.reduceLeDiff, Nat.reduceAdd, Nat.reduceMul, Nat.reduceSub, Nat.reduceBEq, ↓reduceIte, bne_self_eq_false, Bool.and_false, Bool.false_and, Bool.true_or, Bool.false_or, Try.f37]
          · have hlt : L'.getD J 0 < L'.getD i 0 := by simpa using hf
            have hR : downF f (swapL L' i J) J n = downF n L 0 n := by
              rw [← hd]
              simp only [downF, h1', if_false, hJe, hlt, if_true]
            repeat (first
                | refine tr_seq_k fun _ _ => ?_
                | (refine tr_region ?_; simp only [go_sem, List.getElem?_toArray, str_beq, reduceCtorEq, Nat.reduceEqDiff, Nat.reduceLT, Nat.reduceLeDiff, Nat.reduceAdd, Nat.reduceMul, Nat.reduceSub, Nat.reduceBEq, ↓reduceIte, bne_self_eq_false, Bool.and_false, Bool.false_and, Bool.true_or, Bool.false_or, gb])
                | (refine call_givesW (swapS hh hlN hin (show J < N by omega)) ?_; (try dsimp only); (try simp only [go_sem, List.getElem?_toArray, str_beq, reduceCtorEq, Nat.reduceEqDiff, Nat.reduceLT, Nat.reduceLeDiff, Nat.reduceAdd, Nat.reduceMul, Nat.reduceSub, Nat.reduceBEq, ↓reduceIte, bne_self_eq_false, Bool.and_false, Bool.false_and, Bool.true_or, Bool.false_or, gb]))
                | refine k_of (by assumption) ?_
                | refine tr_block ?_
                | refine tr_scope ?_
                | (refine tr_skip ?_; try simp only [ex_seq, ex_block])
                | (refine tr_label ?_; try simp only [ex_seq, ex_block])
                | (refine tr_exit ?_; try simp only [ex_seq_exit, ex_block_exit, Nat.reduceEqDiff, if_true, if_false, ex_seq, ex_block, reduceCtorEq, ↓reduceIte])
                | (refine tr_ret ?_; try simp only [ex_seq_ret, ex_block_ret]))
            exact hK (swapL L' i J, J, f) _ _ ⟨by dsimp only; omega, by dsimp only; omega, by rw [swapL_len]; exact hl, hR⟩ ⟨⟨rfl, rfl, rfl, rfl, trivial⟩, Keep.refl _, by simp only [lowF, low, mS_len, Bool.and_true, Bool.true_and, Nat.blt_eq]; exact hbl, hW.mS _ _, by rw [mS_len, mS_len]; exact Nat.le_refl _, Nat.le_refl _⟩ (by dsimp only; omega)
        · have hJe : (if 2 * i + 1 + 1 < n ∧ L'.getD (2 * i + 1 + 1) 0 < L'.getD (2 * i + 1) 0 then 2 * i + 1 + 1 else 2 * i + 1) = 2 * i + 1 := if_neg (fun h => of_decide_eq_false hf h.2)
          obtain ⟨J, hJ0⟩ : ∃ J, J = 2 * i + 1 := ⟨_, rfl⟩
          have hJn : J < n := by omega
          have hiJ : i < J := by omega
          have hJe := hJe.trans hJ0.symm
          rw [← hJ0]
          repeat (first
              | refine tr_seq_k fun _ _ => ?_
              | (refine tr_region ?_; simp only [go_sem, List.getElem?_toArray, str_beq, reduceCtorEq, Nat.reduceEqDiff, Nat.reduceLT, Nat.reduceLeDiff, Nat.reduceAdd, Nat.reduceMul, Nat.reduceSub, Nat.reduceBEq, ↓reduceIte, bne_self_eq_false, Bool.and_false, Bool.false_and, Bool.true_or, Bool.false_or, gb])
              | (refine call_givesW (lessS hh hlN (show J < N by omega) hin) ?_; (try dsimp only); (try simp only [go_sem, List.getElem?_toArray, str_beq, reduceCtorEq, Nat.reduceEqDiff, Nat.reduceLT, Nat.reduceLeDiff, Nat.reduceAdd, Nat.reduceMul, Nat.reduceSub, Nat.reduceBEq, ↓reduceIte, bne_self_eq_false, Bool.and_false, Bool.false_and, Bool.true_or, Bool.false_or, gb]))
              | refine k_of (by assumption) ?_
              | refine tr_block ?_
              | refine tr_scope ?_
              | (refine tr_skip ?_; try simp only [ex_seq, ex_block])
              | (refine tr_label ?_; try simp only [ex_seq, ex_block])
              | (refine tr_exit ?_; try simp only [ex_seq_exit, ex_block_exit, Nat.reduceEqDiff, if_true, if_false, ex_seq, ex_block, reduceCtorEq, ↓reduceIte])
              | (refine tr_ret ?_; try simp only [ex_seq_ret, ex_block_ret]))
          refine tr_cond rfl (fun ht => ?_) (fun hf => ?_)
          · have hlt : ¬ L'.getD J 0 < L'.getD i 0 := by simpa using ht
            have hR : downF n L 0 n = (L', i) := by
              rw [← hd]
              simp only [downF, h1', if_false, hJe, hlt]
            repeat (first
                | refine tr_seq_k fun _ _ => ?_
                | (refine tr_region ?_; simp only [go_sem, List.getElem?_toArray, str_beq, reduceCtorEq, Nat.reduceEqDiff, Nat.reduceLT, Nat.reduceLeDiff, Nat.reduceAdd, Nat.reduceMul, Nat.reduceSub, Nat.reduceBEq, ↓reduceIte, bne_self_eq_false, Bool.and_false, Bool.false_and, Bool.true_or, Bool.false_or])
                | refine k_of (by assumption) ?_
                | refine tr_block ?_
                | refine tr_scope ?_
                | (refine tr_skip ?_; try simp only [ex_seq, ex_block])
                | (refine tr_label ?_; try simp only [ex_seq, ex_block])
                | (refine tr_exit ?_; try simp only [ex_seq_exit, ex_block_exit, Nat.reduceEqDiff, if_true, if_false, ex_seq, ex_block, reduceCtorEq, ↓reduceIte])
                | (refine tr_ret ?_; try simp only [ex_seq_ret, ex_block_ret]))
            refine (hQ _ _ [bA (decide (((0 : Nat) : Int) < (i : Int)))] ?_ (by rw [hR]; rfl) (by rw [hR])).2 <;> simp only [go_sem, List.getElem?_toArray, str_beq, reduceCtorEq, Nat.reduceEqDiff, Nat.reduceLT, Nat.reduceLeDiff, Nat.reduceAdd, Nat.reduceMul, Nat.reduceSub, Nat.reduceBEq, ↓reduceIte, bne_self_eq_false, Bool.and_false, Bool.false_and, Bool.true_or, Bool.false_or, Try.f37]
          · have hlt : L'.getD J 0 < L'.getD i 0 := by simpa using hf
            have hR : downF f (swapL L' i J) J n = downF n L 0 n := by
              rw [← hd]
              simp only [downF, h1', if_false, hJe, hlt, if_true]
            repeat (first
                | refine tr_seq_k fun _ _ => ?_
                | (refine tr_region ?_; simp only [go_sem, List.getElem?_toArray, str_beq, reduceCtorEq, Nat.reduceEqDiff, Nat.reduceLT, Nat.reduceLeDiff, Nat.reduceAdd, Nat.reduceMul, Nat.reduceSub, Nat.reduceBEq, ↓reduceIte, bne_self_eq_false, Bool.and_false, Bool.false_and, Bool.true_or, Bool.false_or, gb])
                | (refine call_givesW (swapS hh hlN hin (show J < N by omega)) ?_; (try dsimp only); (try simp only [go_sem, List.getElem?_toArray, str_beq, reduceCtorEq, Nat.reduceEqDiff, Nat.reduceLT, Nat.reduceLeDiff, Nat.reduceAdd, Nat.reduceMul, Nat.reduceSub, Nat.reduceBEq, ↓reduceIte, bne_self_eq_false, Bool.and_false, Bool.false_and, Bool.true_or, Bool.false_or, gb]))
                | refine k_of (by assumption) ?_
                | refine tr_block ?_
                | refine tr_scope ?_
                | (refine tr_skip ?_; try simp only [ex_seq, ex_block])
                | (refine tr_label ?_; try simp only [ex_seq, ex_block])
                | (refine tr_exit ?_; try simp only [ex_seq_exit, ex_block_exit, Nat.reduceEqDiff, if_true, if_false, ex_seq, ex_block, reduceCtorEq, ↓reduceIte])
                | (refine tr_ret ?_; try simp only [ex_seq_ret, ex_block_ret]))
            exact hK (swapL L' i J, J, f) _ _ ⟨by dsimp only; omega, by dsimp only; omega, by rw [swapL_len]; exact hl, hR⟩ ⟨⟨rfl, rfl, rfl, rfl, trivial⟩, Keep.refl _, by simp only [lowF, low, mS_len, Bool.and_true, Bool.true_and, Nat.blt_eq]; exact hbl, hW.mS _ _, by rw [mS_len, mS_len]; exact Nat.le_refl _, Nat.le_refl _⟩ (by dsimp only; omega)

theorem up_gives {m : Mm} {h b N j0 : Nat} {L : List Int} {rest : List AV} (hh : h < m.hp.length) (hb : m.hp[b]? = some ⟨false, .lsl h 0 N 1 :: rest⟩) (hbh : b ≠ h) (hN : N ≤ L.length) (hn : j0 < N) (hM : N ≤ 1000000) (hW : Wf m) :
    GivesW Try.prog 38 [.ifc 67 (.ptr b 0), iA j0] (mS m h L) (.tup []) (mS m h (upF (j0 + 1) L j0)) := by
  have hbl := (List.getElem?_eq_some_iff.1 hb).1
  refine givesW_of' Try.func38 rfl (by kernel_rfl) Try.ntmps38 rfl rfl fun Q hQ => ?_
  repeat (first
      | refine tr_seq_k fun _ _ => ?_
      | (refine tr_region ?_; simp only [go_sem, List.getElem?_toArray, str_beq, reduceCtorEq, Nat.reduceEqDiff, Nat.reduceLT, Nat.reduceLeDiff, Nat.reduceAdd, Nat.reduceMul, Nat.reduceSub, Nat.reduceBEq, ↓reduceIte, bne_self_eq_false, Bool.and_false, Bool.false_and, Bool.true_or, Bool.false_or])
      | refine k_of (by assumption) ?_
      | refine tr_block ?_
      | refine tr_scope ?_
      | (refine tr_skip ?_; try simp only [ex_seq, ex_block])
      | (refine tr_label ?_; try simp only [ex_seq, ex_block])
      | (refine tr_exit ?_; try simp only [ex_seq_exit, ex_block_exit, Nat.reduceEqDiff, if_true, if_false, ex_seq, ex_block, reduceCtorEq, ↓reduceIte])
      | (refine tr_ret ?_; try simp only [ex_seq_ret, ex_block_ret]))
  refine tr_loop_k (σ := List Int × Nat × Nat) (fun s => [(0, .ifc 67 (.ptr b 0)), (1, iA s.2.1)]) (fun s => mS m h s.1)
    (fun s => s.2.1 < s.2.2 ∧ s.2.1 < N ∧ s.1.length = L.length ∧ upF s.2.2 s.1 s.2.1 = upF (j0 + 1) L j0) (fun s => s.2.1) (L, j0, j0 + 1) ⟨by dsimp only; omega, hn, rfl, rfl⟩ ⟨rfl, rfl, trivial⟩ rfl ?_
  rintro ⟨L', j, f⟩ ⟨hf, hi, hl, hd⟩ K hK
  dsimp only at hf hi hl hd hK
  have w1 : IntKind.i64.wrap ((j : Int) - 1) = (j : Int) - 1 := wrap_in (by omega)
  have w2 : IntKind.i64.wrap (((j : Int) - 1).tdiv 2) = (((j - 1) / 2 : Nat) : Int) := by
    have e : ((j : Int) - 1).tdiv 2 = (((j - 1) / 2 : Nat) : Int) := by
      rcases Nat.eq_zero_or_pos j with h0 | h0
      · subst h0; rfl
      · rw [Int.tdiv_eq_ediv_of_nonneg (by omega)]; omega
    rw [e, wrap_in (by omega)]
  have two : ¬ (2 : Int) = 0 := by decide
  have gb : (mS m h L').hp[b]? = some ⟨false, .lsl h 0 N 1 :: rest⟩ := by rw [mS_b hbh]; exact hb
  have hlN : N ≤ L'.length := by omega
  obtain ⟨f, rfl⟩ : ∃ f', f = f' + 1 := ⟨f - 1, by omega⟩
  cases h1 : ((((j - 1) / 2 : Nat) : Int) == (j : Int)) with
  | true =>
    have h1' : (j - 1) / 2 = j := by
      have := eq_of_beq h1
      omega
    have hR : upF (j0 + 1) L j0 = L' := by
      rw [← hd]
      simp only [upF, h1', if_true]
    repeat (first
        | refine tr_seq_k fun _ _ => ?_
        | (refine tr_region ?_; simp only [go_sem, List.getElem?_toArray, str_beq, reduceCtorEq, Nat.reduceEqDiff, Nat.reduceLT, Nat.reduceLeDiff, Nat.reduceAdd, Nat.reduceMul, Nat.reduceSub, Nat.reduceBEq, ↓reduceIte, bne_self_eq_false, Bool.and_false, Bool.false_and, Bool.true_or, Bool.false_or, w1, w2, two, h1])
        | refine k_of (by assumption) ?_
        | refine tr_block ?_
        | refine tr_scope ?_
        | (refine tr_skip ?_; try simp only [ex_seq, ex_block])
        | (refine tr_label ?_; try simp only [ex_seq, ex_block])
        | (refine tr_exit ?_; try simp only [ex_seq_exit, ex_block_exit, Nat.reduceEqDiff, if_true, if_false, ex_seq, ex_block, reduceCtorEq, ↓reduceIte])
        | (refine tr_ret ?_; try simp only [ex_seq_ret, ex_block_ret]))
    refine tr_cond rfl (fun ht => ?_) (fun hf => ?_)
    · repeat (first
          | refine tr_seq_k fun _ _ => ?_
          | (refine tr_region ?_; simp only [go_sem, List.getElem?_toArray, str_beq, reduceCtorEq, Nat.reduceEqDiff, Nat.reduceLT, Nat.reduceLeDiff, Nat.reduceAdd, Nat.reduceMul, Nat.reduceSub, Nat.reduceBEq, ↓reduceIte, bne_self_eq_false, Bool.and_false, Bool.false_and, Bool.true_or, Bool.false_or])
          | refine k_of (by assumption) ?_
          | refine tr_block ?_
          | refine tr_scope ?_
          | (refine tr_skip ?_; try simp only [ex_seq, ex_block])
          | (refine tr_label ?_; try simp only [ex_seq, ex_block])
          | (refine tr_exit ?_; try simp only [ex_seq_exit, ex_block_exit, Nat.reduceEqDiff, if_true, if_false, ex_seq, ex_block, reduceCtorEq, ↓reduceIte])
          | (refine tr_ret ?_; try simp only [ex_seq_ret, ex_block_ret]))
      refine (hQ _ _ [] rfl ?_ ?_).1
      · rfl
      · rw [hR]
    · cases hf
  | false =>
    have h1' : ¬ (j - 1) / 2 = j := by
      have := ne_of_beq_false h1
      omega
    have hpN : (j - 1) / 2 < N := by omega
    repeat (first
        | refine tr_seq_k fun _ _ => ?_
        | (refine tr_region ?_; simp only [go_sem, List.getElem?_toArray, str_beq, reduceCtorEq, Nat.reduceEqDiff, Nat.reduceLT, Nat.reduceLeDiff, Nat.reduceAdd, Nat.reduceMul, Nat.reduceSub, Nat.reduceBEq, ↓reduceIte, bne_self_eq_false, Bool.and_false, Bool.false_and, Bool.true_or, Bool.false_or, w1, w2, two, h1, gb])
        | (refine call_givesW (lessS hh hlN hi hpN) ?_; (try dsimp only); (try simp only [go_sem, List.getElem?_toArray, str_beq, reduceCtorEq, Nat.reduceEqDiff, Nat.reduceLT, Nat.reduceLeDiff, Nat.reduceAdd, Nat.reduceMul, Nat.reduceSub, Nat.reduceBEq, ↓reduceIte, bne_self_eq_false, Bool.and_false, Bool.false_and, Bool.true_or, Bool.false_or, w1, w2, two, h1, gb]))
        | refine k_of (by assumption) ?_
        | refine tr_block ?_
        | refine tr_scope ?_
        | (refine tr_skip ?_; try simp only [ex_seq, ex_block])
        | (refine tr_label ?_; try simp only [ex_seq, ex_block])
        | (refine tr_exit ?_; try simp only [ex_seq_exit, ex_block_exit, Nat.reduceEqDiff, if_true, if_false, ex_seq, ex_block, reduceCtorEq, ↓reduceIte])
        | (refine tr_ret ?_; try simp only [ex_seq_ret, ex_block_ret]))
    refine tr_cond rfl (fun ht => ?_) (fun hf => ?_)
    · have hlt : ¬ L'.getD j 0 < L'.getD ((j - 1) / 2) 0 := by simpa using ht
      have hR : upF (j0 + 1) L j0 = L' := by
        rw [← hd]
        simp only [upF, h1', if_false, hlt]
      repeat (first
          | refine tr_seq_k fun _ _ => ?_
          | (refine tr_region ?_; simp only [go_sem, List.getElem?_toArray, str_beq, reduceCtorEq, Nat.reduceEqDiff, Nat.reduceLT, Nat.reduceLeDiff, Nat.reduceAdd, Nat.reduceMul, Nat.reduceSub, Nat.reduceBEq, ↓reduceIte, bne_self_eq_false, Bool.and_false, Bool.false_and, Bool.true_or, Bool.false_or])
          | refine k_of (by assumption) ?_
          | refine tr_block ?_
          | refine tr_scope ?_
          | (refine tr_skip ?_; try simp only [ex_seq, ex_block])
          | (refine tr_label ?_; try simp only [ex_seq, ex_block])
          | (refine tr_exit ?_; try simp only [ex_seq_exit, ex_block_exit, Nat.reduceEqDiff, if_true, if_false, ex_seq, ex_block, reduceCtorEq, ↓reduceIte])
          | (refine tr_ret ?_; try simp only [ex_seq_ret, ex_block_ret]))
      refine (hQ _ _ [] rfl ?_ ?_).1
      · rfl
      · rw [hR]
    · have hlt : L'.getD j 0 < L'.getD ((j - 1) / 2) 0 := by simpa using hf
      have hR : upF f (swapL L' ((j - 1) / 2) j) ((j - 1) / 2) = upF (j0 + 1) L j0 := by
        rw [← hd]
        simp only [upF, h1', if_false, hlt, if_true]
      repeat (first
          | refine tr_seq_k fun _ _ => ?_
          | (refine tr_region ?_; simp only [go_sem, List.getElem?_toArray, str_beq, reduceCtorEq, Nat.reduceEqDiff, Nat.reduceLT, Nat.reduceLeDiff, Nat.reduceAdd, Nat.reduceMul, Nat.reduceSub, Nat.reduceBEq, ↓reduceIte, bne_self_eq_false, Bool.and_false, Bool.false_and, Bool.true_or, Bool.false_or, gb])
          | (refine call_givesW (swapS hh hlN hpN hi) ?_; (try dsimp only); (try simp only [go_sem, List.getElem?_toArray, str_beq, reduceCtorEq, Nat.reduceEqDiff, Nat.reduceLT, Nat.reduceLeDiff, Nat.reduceAdd, Nat.reduceMul, Nat.reduceSub, Nat.reduceBEq, ↓reduceIte, bne_self_eq_false, Bool.and_false, Bool.false_and, Bool.true_or, Bool.false_or, gb]))
          | refine k_of (by assumption) ?_
          | refine tr_block ?_
          | refine tr_scope ?_
          | (refine tr_skip ?_; try simp only [ex_seq, ex_block])
          | (refine tr_label ?_; try simp only [ex_seq, ex_block])
          | (refine tr_exit ?_; try simp only [ex_seq_exit, ex_block_exit, Nat.reduceEqDiff, if_true, if_false, ex_seq, ex_block, reduceCtorEq, ↓reduceIte])
          | (refine tr_ret ?_; try simp only [ex_seq_ret, ex_block_ret]))
      exact hK (swapL L' ((j - 1) / 2) j, (j - 1) / 2, f) _ _ ⟨by dsimp only; omega, by dsimp only; omega, by rw [swapL_len]; exact hl, hR⟩ ⟨⟨rfl, rfl, trivial⟩, Keep.refl _, by simp only [lowF, low, mS_len, Bool.and_true, Bool.true_and, Nat.blt_eq]; exact hbl, hW.mS _ _, by rw [mS_len, mS_len]; exact Nat.le_refl _, Nat.le_refl _⟩ (by dsimp only; omega)
end Go.Proofs.Ytlhlcfijpdknfaa

/-
  Tables of texts by numbers: what layer 2 does, in plain lists. No program in sight.
-/
set_option linter.unusedSimpArgs false
set_option linter.unusedVariables false
namespace Go.Vs.Tb
open Go.Vs.Hp

/-- A text, how often it was taken. -/
abbrev Ent := ByteArray × Nat
def emp : ByteArray := ⟨#[]⟩

def findS (E : List Ent) (s : ByteArray) : Option Nat := if s = emp then none else E.findIdx? (fun e => decide (e.1 = s))
def leastF (E : List Ent) : Nat := E.findIdx (fun e => decide (e.1 = emp))
def liveB (e : Ent) : Bool := !decide (e.1 = emp)
def liveN (E : List Ent) : Nat := (E.filter liveB).length
def hasS (E : List Ent) (n : Int) : Bool := decide (0 ≤ n) && (match E[n.toNat]? with | some e => liveB e | none => false)
def takeS (E : List Ent) (s : ByteArray) : (Nat × Int) × List Ent :=
  if s.size < 1 ∨ 255 < s.size then ((0, 2), E) else
    match findS E s with
    | some n => ((n, 0), E.set n (s, (E.getD n (emp, 0)).2 + 1))
    | none => if 65536 ≤ liveN E then ((0, 16), E) else
      ((leastF E, 0), if leastF E = E.length then E ++ [(s, 1)] else E.set (leastF E) (s, 1))
def dropS (E : List Ent) (n : Int) : Int × List Ent :=
  if hasS E n then (0, if (E.getD n.toNat (emp, 0)).2 = 1 then E.set n.toNat (emp, 0) else E.set n.toNat ((E.getD n.toNat (emp, 0)).1, (E.getD n.toNat (emp, 0)).2 - 1)) else (13, E)

structure Inv (F : List Int) (E : List Ent) (N : List (ByteArray × Nat)) : Prop where
  heap : Heap F F.length
  fnd : F.Nodup
  fmem : ∀ x, x ∈ F ↔ ∃ (i : Nat) (e : Ent), x = (i : Int) ∧ E[i]? = some e ∧ e.2 = 0
  nmem : ∀ s i, (s, i) ∈ N ↔ ∃ u, E[i]? = some (s, u) ∧ 0 < u
  nnd : (N.map Prod.fst).Nodup
  zero : ∀ (i : Nat) (e : Ent), E[i]? = some e → (e.2 = 0 ↔ e.1 = emp)

theorem Inv.new : Inv [] [] [] := ⟨fun j h1 h2 => by simp at h2, by simp, fun x => by simp, fun s i => by simp, by simp, fun i e h => by simp at h⟩

section
variable {F : List Int} {E : List Ent} {N : List (ByteArray × Nat)}

theorem Inv.key (h : Inv F E N) {s : ByteArray} {i j : Nat} (h1 : (s, i) ∈ N) (h2 : (s, j) ∈ N) : i = j := by
  have hp := h.nnd
  rw [List.nodup_iff_pairwise_ne, List.pairwise_map] at hp
  obtain ⟨a, ha, ha2⟩ := List.mem_iff_getElem.1 h1
  obtain ⟨b, hb, hb2⟩ := List.mem_iff_getElem.1 h2
  rw [List.pairwise_iff_getElem] at hp
  rcases Nat.lt_trichotomy a b with hab | hab | hab
  · exact absurd (by rw [ha2, hb2]) (hp a b ha hb hab)
  · subst hab
    rw [ha2] at hb2
    injection hb2
  · exact absurd (by rw [ha2, hb2]) (hp b a hb ha hab)
theorem Inv.one (h : Inv F E N) {s : ByteArray} {i j u v : Nat} (h1 : E[i]? = some (s, u)) (h2 : E[j]? = some (s, v)) (hs : s ≠ emp) : i = j := by
  have p1 : 0 < u := Nat.pos_of_ne_zero fun e => hs ((h.zero i _ h1).1 e)
  have p2 : 0 < v := Nat.pos_of_ne_zero fun e => hs ((h.zero j _ h2).1 e)
  exact h.key ((h.nmem s i).2 ⟨u, h1, p1⟩) ((h.nmem s j).2 ⟨v, h2, p2⟩)
theorem Inv.ne (h : Inv F E N) {s : ByteArray} {i : Nat} (h1 : (s, i) ∈ N) : s ≠ emp := by
  obtain ⟨u, h2, h3⟩ := (h.nmem s i).1 h1
  intro e
  have := (h.zero i _ h2).2 e
  simp only at this
  omega

theorem findS_some {s : ByteArray} {n : Nat} (h : findS E s = some n) : s ≠ emp ∧ n < E.length ∧ ∃ u, E[n]? = some (s, u) := by
  unfold findS at h
  split at h
  · cases h
  · rename_i hs
    obtain ⟨h1, h2, h3⟩ := List.findIdx?_eq_some_iff_getElem.1 h
    refine ⟨hs, h1, E[n].2, ?_⟩
    rw [List.getElem?_eq_getElem h1]
    have : E[n].1 = s := by simpa using h2
    rw [← this]
theorem findS_none {s : ByteArray} (h : findS E s = none) (hs : s ≠ emp) : ∀ (i : Nat) (u : Nat), E[i]? ≠ some (s, u) := by
  unfold findS at h
  rw [if_neg hs] at h
  intro i u hi
  have := List.findIdx?_eq_none_iff.1 h (s, u) (List.mem_of_getElem? hi)
  simp at this
theorem findS_of {s : ByteArray} {n : Nat} (hs : s ≠ emp) (hn : n < E.length) (h : (E[n]).1 = s) (hl : ∀ j (hj : j < n), (E[j]).1 ≠ s) : findS E s = some n := by
  unfold findS
  rw [if_neg hs]
  exact List.findIdx?_eq_some_iff_getElem.2 ⟨hn, by simpa using h, fun j hj => by simpa using hl j hj⟩
theorem findS_no {s : ByteArray} (hl : ∀ j (hj : j < E.length), (E[j]).1 ≠ s) : findS E s = none := by
  unfold findS
  split
  · rfl
  · rw [List.findIdx?_eq_none_iff]
    intro e he
    obtain ⟨j, hj, rfl⟩ := List.mem_iff_getElem.1 he
    simpa using hl j hj
theorem Inv.find (h : Inv F E N) (s : ByteArray) (n : Nat) : (s, n) ∈ N ↔ findS E s = some n := by
  constructor
  · intro h1
    obtain ⟨u, h2, h3⟩ := (h.nmem s n).1 h1
    have hs := h.ne h1
    have hn := (List.getElem?_eq_some_iff.1 h2).1
    have he := (List.getElem?_eq_some_iff.1 h2).2
    refine findS_of hs hn (by rw [he]) fun j hj e => ?_
    have hj2 : E[j]? = some (s, (E[j]).2) := by
      rw [List.getElem?_eq_getElem (by omega)]
      rw [← e]
    have := h.one hj2 h2 hs
    omega
  · intro h1
    obtain ⟨hs, hn, u, h2⟩ := findS_some h1
    exact (h.nmem s n).2 ⟨u, h2, Nat.pos_of_ne_zero fun e => hs ((h.zero n _ h2).1 e)⟩
theorem Inv.find_none (h : Inv F E N) (s : ByteArray) : s ∉ N.map Prod.fst ↔ findS E s = none := by
  constructor
  · intro h1
    cases h2 : findS E s with
    | none => rfl
    | some n => exact absurd (List.mem_map.2 ⟨(s, n), (h.find s n).2 h2, rfl⟩) h1
  · intro h1 h2
    obtain ⟨⟨t, n⟩, h3, rfl⟩ := List.mem_map.1 h2
    rw [(h.find t n).1 h3] at h1
    cases h1

/-- The numbers that have a text, in order. -/
def lives (E : List Ent) : List Nat := (List.range E.length).filter fun i => liveB (E.getD i (emp, 0))
theorem mem_lives {i : Nat} : i ∈ lives E ↔ ∃ e, E[i]? = some e ∧ e.1 ≠ emp := by
  unfold lives
  rw [List.mem_filter, List.mem_range]
  constructor
  · rintro ⟨h1, h2⟩
    refine ⟨E[i], List.getElem?_eq_getElem h1, ?_⟩
    rw [List.getD_eq_getElem?_getD, List.getElem?_eq_getElem h1] at h2
    simpa [liveB] using h2
  · rintro ⟨e, h1, h2⟩
    obtain ⟨h3, h4⟩ := List.getElem?_eq_some_iff.1 h1
    refine ⟨h3, ?_⟩
    rw [List.getD_eq_getElem?_getD, h1]
    simpa [liveB] using h2
theorem lives_append (E : List Ent) (e : Ent) : lives (E ++ [e]) = lives E ++ if liveB e then [E.length] else [] := by
  unfold lives
  rw [List.length_append, List.length_cons, List.length_nil, List.range_succ, List.filter_append]
  congr 1
  · apply List.filter_congr
    intro i hi
    have hi := List.mem_range.1 hi
    rw [List.getD_eq_getElem?_getD, List.getElem?_append_left hi, ← List.getD_eq_getElem?_getD]
  · simp [List.getD_eq_getElem?_getD, List.filter_cons]
theorem lives_take (E : List Ent) (k : Nat) (hk : k < E.length) : lives (E.take (k + 1)) = lives (E.take k) ++ if liveB E[k] then [k] else [] := by
  have : E.take (k + 1) = E.take k ++ [E[k]] := (List.take_append_getElem hk).symm
  rw [this, lives_append, List.length_take, Nat.min_eq_left (by omega)]
theorem filter_len {A : Type} (p : A → Bool) (d : A) : ∀ l : List A, ((List.range l.length).filter fun i => p (l.getD i d)).length = (l.filter p).length := by
  intro l
  induction l with
  | nil => rfl
  | cons x l ih =>
    have e : ((fun i => p ((x :: l).getD i d)) ∘ Nat.succ) = fun i => p (l.getD i d) := rfl
    have e0 : (x :: l).getD 0 d = x := rfl
    rw [List.length_cons, List.range_succ_eq_map, List.filter_cons, List.filter_cons, List.filter_map, e, e0]
    cases p x
    · simpa using ih
    · simpa using ih
theorem liveN_eq (E : List Ent) : liveN E = (lives E).length := (filter_len liveB (emp, 0) E).symm
theorem lives_nodup (E : List Ent) : (lives E).Nodup := List.nodup_range.filter _
theorem lives_sorted (E : List Ent) : (lives E).Pairwise (· < ·) := List.pairwise_lt_range.filter _
theorem Inv.perm (h : Inv F E N) : (N.map Prod.snd).Perm (lives E) := by
  have hnd : (N.map Prod.snd).Nodup := by
    have hp := h.nnd
    rw [List.nodup_iff_pairwise_ne, List.pairwise_map] at hp ⊢
    rw [List.pairwise_iff_getElem] at hp ⊢
    intro i j hi hj hij e
    have m1 : N[i] ∈ N := List.getElem_mem hi
    have m2 : N[j] ∈ N := List.getElem_mem hj
    obtain ⟨u, h1, _⟩ := (h.nmem N[i].1 N[i].2).1 m1
    obtain ⟨v, h2, _⟩ := (h.nmem N[j].1 N[j].2).1 m2
    rw [e] at h1
    rw [h1] at h2
    injection h2 with h2
    injection h2 with h2
    exact hp i j hi hj hij h2
  rw [List.perm_ext_iff_of_nodup hnd (lives_nodup E)]
  intro i
  rw [mem_lives]
  constructor
  · intro h1
    obtain ⟨⟨s, n⟩, h2, rfl⟩ := List.mem_map.1 h1
    obtain ⟨u, h3, h4⟩ := (h.nmem s n).1 h2
    exact ⟨_, h3, h.ne h2⟩
  · rintro ⟨⟨s, u⟩, h1, h2⟩
    exact List.mem_map.2 ⟨(s, i), (h.nmem s i).2 ⟨u, h1, Nat.pos_of_ne_zero fun e => h2 ((h.zero i _ h1).1 e)⟩, rfl⟩
theorem Inv.len (h : Inv F E N) : N.length = liveN E := by
  rw [liveN_eq, ← h.perm.length_eq, List.length_map]

theorem leastF_le (E : List Ent) : leastF E ≤ E.length := List.findIdx_le_length
theorem leastF_lt {n : Nat} (h : leastF E = n) (hn : n < E.length) : (E[n]).1 = emp ∧ ∀ j (hj : j < n), (E[j]).1 ≠ emp := by
  subst h
  refine ⟨?_, fun j hj => ?_⟩
  · have := List.findIdx_getElem (xs := E) (p := fun e => decide (e.1 = emp)) (w := by exact hn)
    exact of_decide_eq_true this
  · have := List.not_of_lt_findIdx (xs := E) (p := fun e => decide (e.1 = emp)) hj
    simpa using this
theorem leastF_all (h : leastF E = E.length) : ∀ j (hj : j < E.length), (E[j]).1 ≠ emp := fun j hj => by
  have := List.not_of_lt_findIdx (xs := E) (p := fun e => decide (e.1 = emp)) (i := j) (by show j < leastF E; omega)
  simpa using this
theorem leastF_of {n : Nat} (hn : n ≤ E.length) (h : ∀ (hn : n < E.length), (E[n]).1 = emp) (hl : ∀ j (hj : j < n), (E[j]).1 ≠ emp) : leastF E = n := by
  have h1 : ¬ leastF E < n := fun hlt => by
    have := (leastF_lt (E := E) rfl (by omega)).1
    exact hl _ hlt this
  have h2 : ¬ n < leastF E := fun hlt => by
    have hn' : n < E.length := Nat.lt_of_lt_of_le hlt (leastF_le E)
    have := List.not_of_lt_findIdx (xs := E) (p := fun e => decide (e.1 = emp)) (i := n) (by exact hlt)
    simp at this
    exact this (h hn')
  omega

theorem set_get {E : List Ent} {n : Nat} (hn : n < E.length) (x : Ent) (i : Nat) (e : Ent) : (E.set n x)[i]? = some e ↔ (i = n ∧ e = x) ∨ (i ≠ n ∧ E[i]? = some e) := by
  rw [List.getElem?_set]
  by_cases h : n = i
  · subst h
    rw [if_pos rfl, if_pos hn]
    constructor
    · intro h; injection h with h; exact Or.inl ⟨rfl, h.symm⟩
    · rintro (⟨_, rfl⟩ | ⟨h, _⟩)
      · rfl
      · exact absurd rfl h
  · rw [if_neg h]
    constructor
    · intro h2; exact Or.inr ⟨Ne.symm h, h2⟩
    · rintro (⟨h2, _⟩ | ⟨_, h2⟩)
      · exact absurd h2.symm h
      · exact h2

/-- Taken again, or dropped and still there. -/
theorem Inv.again (h : Inv F E N) {s : ByteArray} {n u v : Nat} (h1 : E[n]? = some (s, u)) (hs : s ≠ emp) (hv : 0 < v) : Inv F (E.set n (s, v)) N := by
  have hn := (List.getElem?_eq_some_iff.1 h1).1
  have hu : 0 < u := Nat.pos_of_ne_zero fun e => hs ((h.zero n _ h1).1 e)
  refine ⟨h.heap, h.fnd, fun x => ?_, fun t i => ?_, h.nnd, fun i e h2 => ?_⟩
  · rw [h.fmem]
    constructor
    · rintro ⟨i, e, rfl, h2, h3⟩
      refine ⟨i, e, rfl, (set_get hn _ _ _).2 (Or.inr ⟨fun hi => ?_, h2⟩), h3⟩
      subst hi
      rw [h1] at h2
      injection h2 with h2
      subst h2
      simp only at h3
      omega
    · rintro ⟨i, e, rfl, h2, h3⟩
      rcases (set_get hn _ _ _).1 h2 with ⟨_, rfl⟩ | ⟨_, h4⟩
      · simp only at h3; omega
      · exact ⟨i, e, rfl, h4, h3⟩
  · rw [h.nmem]
    constructor
    · rintro ⟨w, h2, h3⟩
      by_cases hi : i = n
      · subst hi
        rw [h1] at h2
        injection h2 with h2
        injection h2 with h2 h4
        subst h2
        exact ⟨v, (set_get hn _ _ _).2 (Or.inl ⟨rfl, rfl⟩), hv⟩
      · exact ⟨w, (set_get hn _ _ _).2 (Or.inr ⟨hi, h2⟩), h3⟩
    · rintro ⟨w, h2, h3⟩
      rcases (set_get hn _ _ _).1 h2 with ⟨rfl, h4⟩ | ⟨_, h4⟩
      · injection h4 with h4 h5
        subst h4
        exact ⟨u, h1, hu⟩
      · exact ⟨w, h4, h3⟩
  · rcases (set_get hn _ _ _).1 h2 with ⟨_, rfl⟩ | ⟨_, h4⟩
    · constructor
      · intro e; simp only at e; omega
      · intro e; exact absurd e hs
    · exact h.zero i e h4

theorem Inv.least (h : Inv F E N) (h0 : 0 < F.length) : F.getD 0 0 = (leastF E : Nat) ∧ leastF E < E.length := by
  have hm : F.getD 0 0 ∈ F := by
    rw [List.getD_eq_getElem?_getD, List.getElem?_eq_getElem h0]
    exact List.getElem_mem h0
  obtain ⟨i, e, h1, h2, h3⟩ := (h.fmem _).1 hm
  have hi := (List.getElem?_eq_some_iff.1 h2).1
  have he := (List.getElem?_eq_some_iff.1 h2).2
  have : leastF E = i := by
    refine leastF_of (Nat.le_of_lt hi) (fun _ => ?_) fun j hj hz => ?_
    · rw [he]; exact (h.zero i e h2).1 h3
    · have hjl : j < E.length := by omega
      have hj2 : E[j]? = some E[j] := List.getElem?_eq_getElem hjl
      have : ((j : Nat) : Int) ∈ F := (h.fmem _).2 ⟨j, E[j], rfl, hj2, (h.zero j _ hj2).2 hz⟩
      obtain ⟨k, hk, hk2⟩ := List.mem_iff_getElem.1 this
      have := h.heap.least k hk
      rw [List.getD_eq_getElem?_getD (i := k), List.getElem?_eq_getElem hk] at this
      simp only [Option.getD_some] at this
      omega
  rw [this]
  exact ⟨h1, hi⟩
theorem Inv.least0 (h : Inv F E N) (h0 : F = []) : leastF E = E.length := by
  refine leastF_of (Nat.le_refl _) (fun h => absurd h (Nat.lt_irrefl _)) fun j hj hz => ?_
  have hj2 : E[j]? = some E[j] := List.getElem?_eq_getElem hj
  have : ((j : Nat) : Int) ∈ F := (h.fmem _).2 ⟨j, E[j], rfl, hj2, (h.zero j _ hj2).2 hz⟩
  rw [h0] at this
  cases this

/-- A number that was free. -/
theorem Inv.fill (h : Inv F E N) {F' : List Int} {s : ByteArray} {n : Nat} (hp : F.Perm ((n : Int) :: F')) (hh : Heap F' F'.length) (hs : s ≠ emp) (hf : findS E s = none) : Inv F' (E.set n (s, 1)) (N ++ [(s, n)]) := by
  have hnd : ((n : Int) :: F').Nodup := hp.nodup_iff.1 h.fnd
  rw [List.nodup_cons] at hnd
  have hmem : ∀ x, x ∈ F ↔ x = (n : Int) ∨ x ∈ F' := fun x => by rw [hp.mem_iff, List.mem_cons]
  obtain ⟨k, e0, hk, h1, h2⟩ := (h.fmem _).1 ((hmem (n : Int)).2 (Or.inl rfl))
  have hk : n = k := by omega
  subst hk
  have hn := (List.getElem?_eq_some_iff.1 h1).1
  refine ⟨hh, hnd.2, fun x => ?_, fun t i => ?_, ?_, fun i e h2 => ?_⟩
  · constructor
    · intro hx
      obtain ⟨i, e, rfl, h3, h4⟩ := (h.fmem x).1 ((hmem x).2 (Or.inr hx))
      refine ⟨i, e, rfl, (set_get hn _ _ _).2 (Or.inr ⟨fun hi => ?_, h3⟩), h4⟩
      subst hi
      exact hnd.1 hx
    · rintro ⟨i, e, rfl, h3, h4⟩
      rcases (set_get hn _ _ _).1 h3 with ⟨_, rfl⟩ | ⟨h5, h6⟩
      · cases h4
      · rcases (hmem _).1 ((h.fmem _).2 ⟨i, e, rfl, h6, h4⟩) with h7 | h7
        · exact absurd (by omega) h5
        · exact h7
  · rw [List.mem_append, List.mem_singleton, h.nmem]
    constructor
    · rintro (⟨u, h3, h4⟩ | h3)
      · refine ⟨u, (set_get hn _ _ _).2 (Or.inr ⟨fun hi => ?_, h3⟩), h4⟩
        subst hi
        rw [h1] at h3
        injection h3 with h3
        subst h3
        simp only at h2
        omega
      · injection h3 with h3 h4
        subst h3 h4
        exact ⟨1, (set_get hn _ _ _).2 (Or.inl ⟨rfl, rfl⟩), Nat.one_pos⟩
    · rintro ⟨u, h3, h4⟩
      rcases (set_get hn _ _ _).1 h3 with ⟨rfl, h5⟩ | ⟨_, h5⟩
      · injection h5 with h5 h6
        subst h5
        exact Or.inr rfl
      · exact Or.inl ⟨u, h5, h4⟩
  · rw [List.map_append, List.nodup_append]
    refine ⟨h.nnd, by simp, fun a ha b hb => ?_⟩
    simp only [List.map_cons, List.map_nil, List.mem_singleton] at hb
    subst hb
    rintro rfl
    exact (h.find_none _).2 hf ha
  · rcases (set_get hn _ _ _).1 h2 with ⟨_, rfl⟩ | ⟨_, h4⟩
    · constructor
      · intro e; cases e
      · intro e; exact absurd e hs
    · exact h.zero i e h4

/-- A number that is new. -/
theorem Inv.push (h : Inv F E N) {s : ByteArray} (h0 : F = []) (hs : s ≠ emp) (hf : findS E s = none) : Inv [] (E ++ [(s, 1)]) (N ++ [(s, E.length)]) := by
  have hg : ∀ (i : Nat) (e : Ent), (E ++ [(s, 1)])[i]? = some e ↔ E[i]? = some e ∨ (i = E.length ∧ e = (s, 1)) := fun i e => by
    rw [List.getElem?_append]
    split
    · rename_i hi
      constructor
      · exact Or.inl
      · rintro (h | ⟨h, _⟩)
        · exact h
        · omega
    · rename_i hi
      rw [List.getElem?_eq_none (l := E) (by omega)]
      constructor
      · intro h2
        right
        have := (List.getElem?_eq_some_iff.1 h2)
        obtain ⟨h3, h4⟩ := this
        simp only [List.length_singleton] at h3
        have : i = E.length := by omega
        subst this
        refine ⟨rfl, ?_⟩
        simp at h4
        exact h4.symm
      · rintro (h | ⟨rfl, rfl⟩)
        · cases h
        · simp
  refine ⟨fun j h1 h2 => by simp at h2, by simp, fun x => ?_, fun t i => ?_, ?_, fun i e h2 => ?_⟩
  · constructor
    · intro hx; cases hx
    · rintro ⟨i, e, rfl, h1, h2⟩
      rcases (hg i e).1 h1 with h3 | ⟨_, rfl⟩
      · have : ((i : Nat) : Int) ∈ F := (h.fmem _).2 ⟨i, e, rfl, h3, h2⟩
        rw [h0] at this
        exact this
      · cases h2
  · rw [List.mem_append, List.mem_singleton, h.nmem]
    constructor
    · rintro (⟨u, h1, h2⟩ | h1)
      · exact ⟨u, (hg _ _).2 (Or.inl h1), h2⟩
      · injection h1 with h1 h2
        subst h1 h2
        exact ⟨1, (hg _ _).2 (Or.inr ⟨rfl, rfl⟩), Nat.one_pos⟩
    · rintro ⟨u, h1, h2⟩
      rcases (hg _ _).1 h1 with h3 | ⟨rfl, h3⟩
      · exact Or.inl ⟨u, h3, h2⟩
      · injection h3 with h3 h4
        subst h3
        exact Or.inr rfl
  · rw [List.map_append, List.nodup_append]
    refine ⟨h.nnd, by simp, fun a ha b hb => ?_⟩
    simp only [List.map_cons, List.map_nil, List.mem_singleton] at hb
    subst hb
    rintro rfl
    exact (h.find_none _).2 hf ha
  · rcases (hg _ _).1 h2 with h3 | ⟨_, rfl⟩
    · exact h.zero i e h3
    · constructor
      · intro e; cases e
      · intro e; exact absurd e hs

/-- Dropped for the last time. -/
theorem Inv.gone (h : Inv F E N) {F' : List Int} {s : ByteArray} {n u k : Nat} (h1 : E[n]? = some (s, u)) (hs : s ≠ emp) (hp : F'.Perm (F ++ [(n : Int)])) (hh : Heap F' F'.length) (hk : N[k]? = some (s, n)) : Inv F' (E.set n (emp, 0)) (N.eraseIdx k) := by
  have hn := (List.getElem?_eq_some_iff.1 h1).1
  have hu : 0 < u := Nat.pos_of_ne_zero fun e => hs ((h.zero n _ h1).1 e)
  have hmem : ∀ x, x ∈ F' ↔ x ∈ F ∨ x = (n : Int) := fun x => by rw [hp.mem_iff]; simp
  have hnF : ((n : Nat) : Int) ∉ F := fun hx => by
    obtain ⟨i, e, h2, h3, h4⟩ := (h.fmem _).1 hx
    have : n = i := by omega
    subst this
    rw [h1] at h3
    injection h3 with h3
    subst h3
    simp only at h4
    omega
  have hN : ∀ p, p ∈ N.eraseIdx k ↔ p ∈ N ∧ p ≠ (s, n) := fun p => by
    have hkl := (List.getElem?_eq_some_iff.1 hk).1
    have hke := (List.getElem?_eq_some_iff.1 hk).2
    rw [List.mem_eraseIdx_iff_getElem]
    have hpw := h.nnd
    rw [List.nodup_iff_pairwise_ne, List.pairwise_map, List.pairwise_iff_getElem] at hpw
    constructor
    · rintro ⟨i, hi, hne, rfl⟩
      refine ⟨List.getElem_mem hi, fun e => ?_⟩
      rcases Nat.lt_trichotomy i k with hik | hik | hik
      · exact hpw i k hi hkl hik (by rw [e, hke])
      · exact hne hik
      · exact hpw k i hkl hi hik (by rw [e, hke])
    · rintro ⟨h2, h3⟩
      obtain ⟨i, hi, rfl⟩ := List.mem_iff_getElem.1 h2
      exact ⟨i, hi, fun e => h3 (by subst e; exact hke), rfl⟩
  refine ⟨hh, ?_, fun x => ?_, fun t i => ?_, ?_, fun i e h2 => ?_⟩
  · rw [hp.nodup_iff, List.nodup_append]
    refine ⟨h.fnd, by simp, fun a ha b hb => ?_⟩
    rw [List.mem_singleton] at hb
    subst hb
    rintro rfl
    exact hnF ha
  · rw [hmem]
    constructor
    · rintro (hx | rfl)
      · obtain ⟨i, e, rfl, h3, h4⟩ := (h.fmem _).1 hx
        refine ⟨i, e, rfl, (set_get hn _ _ _).2 (Or.inr ⟨fun hi => ?_, h3⟩), h4⟩
        subst hi
        exact hnF hx
      · exact ⟨n, _, rfl, (set_get hn _ _ _).2 (Or.inl ⟨rfl, rfl⟩), rfl⟩
    · rintro ⟨i, e, rfl, h3, h4⟩
      rcases (set_get hn _ _ _).1 h3 with ⟨rfl, _⟩ | ⟨_, h5⟩
      · exact Or.inr rfl
      · exact Or.inl ((h.fmem _).2 ⟨i, e, rfl, h5, h4⟩)
  · rw [hN, h.nmem]
    constructor
    · rintro ⟨⟨v, h2, h3⟩, h4⟩
      refine ⟨v, (set_get hn _ _ _).2 (Or.inr ⟨fun hi => ?_, h2⟩), h3⟩
      subst hi
      rw [h1] at h2
      injection h2 with h2
      injection h2 with h2
      exact h4 (by rw [h2])
    · rintro ⟨v, h2, h3⟩
      rcases (set_get hn _ _ _).1 h2 with ⟨_, h4⟩ | ⟨h4, h5⟩
      · injection h4 with h4 h5
        omega
      · refine ⟨⟨v, h5, h3⟩, fun e => ?_⟩
        injection e with _ e
        exact h4 e
  · have := h.nnd
    rw [List.nodup_iff_pairwise_ne, List.pairwise_map] at this ⊢
    exact this.sublist (List.eraseIdx_sublist ..)
  · rcases (set_get hn _ _ _).1 h2 with ⟨_, rfl⟩ | ⟨_, h4⟩
    · exact ⟨fun _ => rfl, fun _ => rfl⟩
    · exact h.zero i e h4
end
end Go.Vs.Tb
namespace Go.Vs.Tb
open Go.Vs.Hp
/-- Numbers that are free are fewer than numbers. -/
theorem Inv.free_le {F : List Int} {E : List Ent} {N : List (ByteArray × Nat)} (h : Inv F E N) : F.length ≤ E.length := by
  have h1 : ∀ x ∈ F, x ∈ (List.range E.length).map (fun i : Nat => (i : Int)) := fun x hx => by
    obtain ⟨i, e, rfl, h2, _⟩ := (h.fmem x).1 hx
    exact List.mem_map.2 ⟨i, List.mem_range.2 (List.getElem?_eq_some_iff.1 h2).1, rfl⟩
  have h2 := h.fnd.length_le_of_subset h1
  simpa using h2
end Go.Vs.Tb
