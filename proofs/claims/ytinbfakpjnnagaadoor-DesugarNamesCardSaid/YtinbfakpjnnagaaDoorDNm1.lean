/-
  Part 1 of the proof's own texts: general lemmas and contracts of functions, laid one behind the other.
-/
import Derived.Test.YtinbfakpjnnagaaDoorDNm0
import Derived.Test.YtinbfakpjnnagaaDoorDNOn
import Derived.Test.YtinbfakpjnnagaaDoorDNAm
set_option linter.unusedSimpArgs false
set_option linter.unusedVariables false
namespace Go.Proofs.YtinbfakpjnnagaaDoor
open Go.Vs Go.Vs.Ab
/-! ### the first error of several -/
/-! ### chapter 12's reference -/
def z12 : Atm := ⟨⟨#[]⟩, ⟨#[]⟩, 0, ⟨false, ⟨#[]⟩⟩, ⟨false, ⟨#[]⟩⟩, ⟨false, ⟨#[]⟩⟩, ⟨false, ⟨#[]⟩⟩⟩
/-! ### what follows from a policy being well-formed -/
def leadA (g : Grt) : Atm := { g.head with says := g.tw }
theorem lead_arg (g : Grt) (k : Nat) : (leadA g).arg k = g.head.arg k := by
  unfold leadA Atm.arg
  split <;> rfl
/-! ### the clauses -/
structure Cls where
  head : Atm
  ex : Bool
  body : List Atm
def ruCls (r : Rul) : Cls := ⟨r.head, r.body.isEmpty, r.body⟩
def grCls (g : Grt) : Cls := ⟨g.head, false, leadA g :: g.body⟩
def clausesF (p : Pol) : List Cls := p.rules.map ruCls ++ p.grants.map grCls
theorem clauses_len (p : Pol) : (clausesF p).length = p.rules.length + p.grants.length := by
  unfold clausesF
  rw [List.length_append, List.length_map, List.length_map]
end Go.Proofs.YtinbfakpjnnagaaDoor
namespace Go.Vs.Ab
open Go.RowKit
variable {P : Program} {X : Mem} {W0 w w' : World} {m : Mm}
inductive OT where
  | fin
  | stop
  | one (i : Nat) (t : OT)
  | br (i : Nat) (t more : OT)
def OT.heads : OT → List Nat
  | .br i _ more => i :: more.heads
  | _ => []
def chkT (md : Region.Mode) (ops : Array Oper) : OT → Bool → Nat → Array Bool → Bool
  | .fin, false, 0, listed => (Region.ready md ops listed).isEmpty
  | .one i t, false, n + 1, listed => (Region.ready md ops listed).contains i && Region.free md ops listed i && chkT md ops t false n (listed.setIfInBounds i true)
  | .br i t more, false, n + 1, listed => (Region.ready md ops listed == i :: more.heads) && (chkT md ops t false n (listed.setIfInBounds i true) && chkT md ops more true (n + 1) listed)
  | .br i t more, true, n + 1, listed => chkT md ops t false n (listed.setIfInBounds i true) && chkT md ops more true (n + 1) listed
  | .stop, true, _, _ => true
  | _, _, _, _ => false
def treeB (l : List Oper) (t : OT) : Bool := Region.noSelect l.toArray && chkT .any l.toArray t false l.length (Array.replicate l.length false)
end Go.Vs.Ab
namespace Go.Vs.Ab
open Go.RowKit
variable {P : Program} {X : Mem} {W0 w w' : World} {m : Mm} {nt : Nat}
/-! ### an operation reads its operands' slots alone -/
/-! ### whatever the order -/
def isApp : Op → Bool
  | .call c => match c.callee with
    | .builtin .append => true
    | _ => false
  | _ => false
def AppE (nt : Nat) (fr : Fr) (m : Mm) (dst : Option Tmp) (K : Fr → Prop) : Option Ev → Prop
  | some (.loud (.own _ n cs) m1) => (m1.hp = m.hp ∧ m1.hw.take m.hw.length = m.hw) ∧ PutW nt fr dst (.c (.sl false n cs)) K
  | _ => False
def AppW (P : Program) (nt : Nat) (ops : Array Oper) (o : Oper) (fr : Fr) (m : Mm) (b : Option Bool) (K : Fr → Prop) : Prop :=
  match b with
  | none => False
  | some false => PutW nt fr o.dst (.tup []) K
  | some true => AppE nt fr m o.dst K (evOp P fr m o)
theorem appW_true {ops : Array Oper} {o : Oper} {fr : Fr} {K : Fr → Prop} : AppW P nt ops o fr m (some true) K = AppE nt fr m o.dst K (evOp P fr m o) := rfl
theorem appW_false {ops : Array Oper} {o : Oper} {fr : Fr} {K : Fr → Prop} : AppW P nt ops o fr m (some false) K = PutW nt fr o.dst (.tup []) K := rfl
theorem appE_own {fr : Fr} {dst : Option Tmp} {K : Fr → Prop} {k n : Nat} {cs : List CV} {m1 : Mm} : AppE nt fr m dst K (some (.loud (.own k n cs) m1)) = ((m1.hp = m.hp ∧ m1.hw.take m.hw.length = m.hw) ∧ PutW nt fr dst (.c (.sl false n cs)) K) := rfl
@[congr] theorem appW_congr {ops : Array Oper} {o : Oper} {fr : Fr} {b b' : Option Bool} {K : Fr → Prop} (h : b = b') : AppW P nt ops o fr m b K = AppW P nt ops o fr m b' K := by rw [h]
@[congr] theorem appE_congr {fr : Fr} {dst : Option Tmp} {K : Fr → Prop} {e e' : Option Ev} (h : e = e') : AppE nt fr m dst K e = AppE nt fr m dst K e' := by rw [h]
def SeqM (P : Program) (nt : Nat) (ops : Array Oper) : List Oper → Fr → Mm → (Fr → Mm → Prop) → Prop
  | [], fr, m, Q => Q fr m
  | o :: r, fr, m, Q => if isApp o.op then AppW P nt ops o fr m (aWanted ops fr o) fun fr' => SeqM P nt ops r fr' m Q else StepW P nt ops o fr m fun kd fr' m' => (True ∧ m' = m) ∧ SeqM P nt ops r fr' m' Q
/-! ### what a world lets a value lead to -/
theorem lows_of {i j : Nat} : ∀ {cs : List AV}, (∀ (k : Nat) (c : AV), cs[k]? = some c → low i j c = true) → lows i j cs = true
  | [], _ => rfl
  | c :: r, h => by
    simp only [lows, Bool.and_eq_true]
    exact ⟨h 0 c rfl, lows_of fun k d hd => h (k + 1) d (by simpa using hd)⟩
theorem Rep.low {A B : Nat} (hl : ∀ i β, X.loc i = some β → i < A) (ho : ∀ k T, X.own k = some T → k < B) {c : AV} {x : Value} (h : Rep X c x) : Ab.low A B c = true := by
  have key : ∀ {vs : List AV} {xs : List Value}, vs.length = xs.length → (∀ (i : Nat) (c : AV) (x : Value), vs[i]? = some c → xs[i]? = some x → Ab.low A B c = true) → lows A B vs = true := fun {vs xs} hlen ih => lows_of fun k c hc => by
    have hk := (List.getElem?_eq_some_iff.1 hc).1
    exact ih k c _ hc (List.getElem?_eq_getElem (by rw [← hlen]; exact hk))
  induction h with
  | c h => rfl
  | agg h => rfl
  | tup hl' _ ih => simp only [Ab.low]; exact key hl' ih
  | own h hn hc hx ht =>
    obtain ⟨T, h1, _⟩ := ht
    simp only [Ab.low, Nat.blt_eq]
    exact ho _ T h1
  | ptr h => simp only [Ab.low, Nat.blt_eq]; exact hl _ _ h
  | cptr h hx => rfl
  | fn h1 _ h3 _ ih1 ih2 => simp only [Ab.low, Bool.and_eq_true]; exact ⟨key h1 ih1, key h3 ih2⟩
  | lsl h _ _ _ _ => simp only [Ab.low, Nat.blt_eq]; exact hl _ _ h
  | mapp h => simp only [Ab.low, Nat.blt_eq]; exact hl _ _ h
  | ifc _ ih => simp only [Ab.low]; exact ih
  | strc hl' _ _ ih => simp only [Ab.low]; exact key hl' ih
theorem MR.lowB (M : MR X W0 m w) : Ab.lowB m.hp.length m.hw.length m.hp = true := by
  have key : ∀ l : List Blk, (∀ b ∈ l, lows m.hp.length m.hw.length b.cs = true) → Ab.lowB m.hp.length m.hw.length l = true := fun l => by
    induction l with
    | nil => intro _; rfl
    | cons b l ih =>
      intro h
      simp only [Ab.lowB, Bool.and_eq_true]
      exact ⟨h b (by simp), ih fun c hc => h c (by simp [hc])⟩
  refine key _ fun b hb => ?_
  obtain ⟨i, hi, rfl⟩ := List.mem_iff_getElem.1 hb
  obtain ⟨β, _, _, _, hB⟩ := M.locs i m.hp[i] (List.getElem?_eq_getElem hi)
  cases hB with
  | dead h => rw [h]; rfl
  | ent h _ _ _ _ => rw [h]; rfl
  | byt h => rw [h]; rfl
  | bld h _ hv _ _ =>
    rw [h]
    simp only [lows, Ab.low, Bool.and_true]
    exact Rep.low (fun i β h => M.ldom i β h) (fun k T h => M.odom k T h) hv
  | cells _ _ hr _ _ =>
    refine lows_of fun k c hc => ?_
    have hk := (List.getElem?_eq_some_iff.1 hc).1
    have hlen := hr.1
    exact Rep.low (fun i β h => M.ldom i β h) (fun k T h => M.odom k T h) (hr.2 k c _ hc (List.getElem?_eq_getElem (by rw [← hlen]; exact hk)))
section
variable {l : List Oper} {A : List Nat}
end
@[congr] theorem seqM_congr {ops : Array Oper} {l : List Oper} {fr fr' : Fr} {m m' : Mm} {Q : Fr → Mm → Prop} (h : fr = fr') (hm : m = m') : SeqM P nt ops l fr m Q = SeqM P nt ops l fr' m' Q := by rw [h, hm]
attribute [go_sem] SeqM isStore isApp appW_true appW_false appE_own
end Go.Vs.Ab
namespace Go.Proofs.YtinbfakpjnnagaaDoor
open Go.Vs Go.Vs.Ab
set_option maxRecDepth 100000
set_option maxHeartbeats 4000000
theorem idxS12 {ex : Bool} {l : List ByteArray} {k : Nat} (h : k < l.length) : aIndexAddr Tryd.prog 23 (.c (slC stC ex l)) (.c (.v (.int .i64 (k : Int)))) = some (.cptr (stC l[k] ++ (l.drop (k + 1)).flatMap stC)) :=
  idx_R stC 1 (fun _ => rfl) Tryd.underlying23 sz9 (by decide) h
theorem idxA12 {ex : Bool} {l : List Atm} {k : Nat} (h : k < l.length) : aIndexAddr Tryd.prog 33 (.c (slC atC ex l)) (.c (.v (.int .i64 (k : Int)))) = some (.cptr (atC l[k] ++ (l.drop (k + 1)).flatMap atC)) :=
  idx_R atC 11 (fun _ => rfl) Tryd.underlying33 sz39 (by decide) h
structure Pol12 (p : Pol) : Prop where
  prin : p.prin.length ≤ 1000000
  preds : p.preds.length ≤ 1000000
  clears : p.clears.length ≤ 1000000
  reads : ∀ c ∈ p.clears, c.reads.length ≤ 1000000
  rules : p.rules.length ≤ 1000000
  grants : p.grants.length ≤ 1000000
  rb : ∀ r ∈ p.rules, r.body.length ≤ 1000000
  gb : ∀ g ∈ p.grants, g.body.length ≤ 1000000
end Go.Proofs.YtinbfakpjnnagaaDoor
namespace Go.Proofs.YtinbfakpjnnagaaDoor
open Go.Vs Go.Vs.Ab
set_option maxRecDepth 100000
set_option maxHeartbeats 4000000
end Go.Proofs.YtinbfakpjnnagaaDoor
namespace Go.Proofs.YtinbfakpjnnagaaDoor
open Go.Vs Go.Vs.Ab
set_option maxRecDepth 100000
set_option maxHeartbeats 4000000
end Go.Proofs.YtinbfakpjnnagaaDoor
namespace Go.Vs.Ab
open Go.RowKit
variable {P : Program} {X : Mem} {W0 w w' : World} {m : Mm}
theorem vals_getv : ∀ {cs : List CV} {xs : List Value}, vals cs = some xs → ∀ (i : Nat) (c : CV), cs[i]? = some c → ∃ x, c = .v x ∧ xs[i]? = some x
  | [], xs, h, i, c, hc => by simp at hc
  | .sl .. :: _, _, h, _, _, _ => by simp [vals] at h
  | .v x :: r, xs, h, i, c, hc => by
    simp only [vals, Option.map_eq_some_iff] at h
    obtain ⟨ys, h1, rfl⟩ := h
    cases i with
    | zero => simp at hc; exact ⟨x, hc.symm, rfl⟩
    | succ i =>
      obtain ⟨y, h2, h3⟩ := vals_getv h1 i c (by simpa using hc)
      exact ⟨y, h2, by simpa using h3⟩
theorem MR.adopt (M : MR X W0 m w) {β R : Nat} {cur : Array Value} {t : TypeId} {cs : List AV} (hW : W0.heap.size ≤ β) (hcell : ∀ o, X.cell β o = none) (hloc : ∀ i, X.loc i ≠ some β) (hown : ∀ k T, X.own k = some T → T.g ≠ β)
    (hheap : w.heap[β]? = some (.cells cur t (0, 0))) (hl : cs.length ≤ cur.size) (hr : Reps X cs (cur.toList.take cs.length)) (hR : X.room β ≤ R) (hRs : R ≤ cur.size) :
    MR (X.adopt m.hp.length β R) W0 { m with hp := m.hp ++ [⟨false, cs⟩] } w ∧ X.Le W0.heap.size (X.adopt m.hp.length β R) :=
  M.adopt' hW hcell (fun i _ h _ => absurd h (hloc i)) hown hheap hl hr hR hRs
theorem Does.lsl {F : FuncId} {args args' : List AV} {f : Mm → AV × Mm} (h : Does P F args' f) (hs : shuts args = some args') {k n : Nat} {e : TypeId} {size : Nat} {cs : List CV} {xs : List Value} {m1 : Mm} (hf : f ⟨[], []⟩ = (.own k n cs, m1)) (hk : m1.hw[k]? = some ⟨n, e, size⟩) (hv : vals cs = some xs) (m : Mm) :
    Gives P F args m (.lsl m.hp.length 0 n size) { m with hp := m.hp ++ [⟨false, cs.map .c⟩] } := by
  refine ⟨h.1, fun X W0 w vs M ha => ?_⟩
  refine (h.2 X.bare w ⟨[], []⟩ w vs (bare_MR M) (shuts_rep (X := X) (Y := X.bare) rfl hs ha)).mono ?_
  rintro _ w' ⟨v, X1, rfl, k1, k2, k3, _⟩
  rw [hf] at k2 k3
  have M1 := M.grow k3.below
  obtain ⟨T, t1, ⟨t2, t2e, t2s⟩, t3, t4, t5, t6, ⟨cur, t7, t8⟩, t9, t10⟩ := k3.toks k _ hk
  simp only at t2 t2e t2s
  cases k2 with
  | own hr hn1 hc hx ht =>
    rename_i ys a cap
    obtain ⟨T', u1, u2, u3⟩ := ht
    rw [t1] at u1
    injection u1 with u1
    subst u1
    obtain ⟨rfl, rfl⟩ := u3 t2.symm
    have hnew : ∀ o, X.cell T.g o = none := fun o => by
      cases hq : X.cell T.g o with
      | none => rfl
      | some x => have := M.cellBlock hq; omega
    have hroom : X.room T.g = 0 := by
      rcases Nat.eq_zero_or_pos (X.room T.g) with h0 | h0
      · exact h0
      · obtain ⟨ar, tt, zz, q1, _⟩ := M.rm T.g h0
        have := (Array.getElem?_eq_some_iff.1 q1).1
        omega
    have hcurj : ∀ (j : Nat) (x : Value), ys[j]? = some x → cur[j]? = some x := fun j x hj => by
      obtain ⟨b, o, e1, e2⟩ := hx j x hj
      injection e1 with e1
      injection e1 with e1 e3
      subst e1 e3
      have h5 := k3.cell _ _ _ e2
      rw [Nat.zero_add] at h5
      simp only [World.cell?, t7] at h5
      simpa using h5
    have hlen : cs.length ≤ cur.size := by
      rcases Nat.eq_zero_or_pos cs.length with h0 | h0
      · omega
      · have hl : cs.length - 1 < ys.length := by rw [← hr.1]; omega
        have := hcurj _ _ (List.getElem?_eq_getElem hl)
        have := (Array.getElem?_eq_some_iff.1 this).1
        omega
    have hrp : Reps X (cs.map .c) (cur.toList.take (cs.map AV.c).length) := by
      rw [List.length_map]
      refine ⟨by rw [List.length_map, List.length_take]; simp only [Array.length_toList]; omega, fun i c x h1 h2 => ?_⟩
      rw [List.getElem?_map, Option.map_eq_some_iff] at h1
      obtain ⟨c0, h1, rfl⟩ := h1
      have hi := (List.getElem?_eq_some_iff.1 h1).1
      rw [List.getElem?_take, if_pos hi, Array.getElem?_toList] at h2
      obtain ⟨x0, rfl, _⟩ := vals_getv hv i c0 h1
      have hl : i < ys.length := by rw [← hr.1]; exact hi
      have h3 := hcurj i _ (List.getElem?_eq_getElem hl)
      rw [h2] at h3
      injection h3 with h3
      have h4 := hr.2 i _ _ h1 (List.getElem?_eq_getElem hl)
      rw [← h3] at h4
      cases h4 with
      | v h5 => exact .c (.v h5)
    obtain ⟨A, hle⟩ := M1.adopt (β := T.g) (R := T.cap * T.size) (Nat.le_trans M.below.size t3) hnew (fun i hi => by have := (M.locBlock hi).1; omega) (fun k S hS e => by have := (M.tokBlock hS).1; omega) t7 (by rw [List.length_map]; exact hlen) hrp (by rw [hroom]; exact Nat.zero_le _) (by rw [t8]; exact Nat.le_refl _)
    refine ⟨_, X.adopt m.hp.length T.g (T.cap * T.size), rfl, hle, ?_, A, fun i β hi => k3.below.block β (M.locBlock hi).1⟩
    refine .lsl (by simp [Mem.adopt]) (fun _ => by rw [Nat.zero_mul]) hn1 hc.1 ?_
    simp only [Mem.adopt, if_true]
    rw [t2s, Nat.zero_add]
    exact Nat.le_refl _
theorem givesW_of {F : FuncId} {fn : Func} {c : Code} (hF : P.funcs[F]? = some fn) (hb : fn.body = some c) (hcb : callableB fn = true) {args : List AV} {r : AV} {m m' : Mm} (hle : args.length ≤ fn.ntmps)
    (h : Tr fle P fn.ntmps c (initFr 0 args) m (fun e fr m1 => (∀ id, e ≠ .exit id) ∧ ∃ cs, resAll P fr m1 fn.results.toList = some cs ∧ resV cs = r ∧ m1 = m')) : GivesW P F args m r m' := by
  refine ⟨callable_of hF hcb, fun X W0 w vs M hargs => ?_⟩
  refine (calls_of_wp hF hb (R := fun e w' => ∃ v X', e = .returned v ∧ X.Le W0.heap.size X' ∧ Rep X' r v ∧ MR X' W0 m' w') (wp_mono (h X W0 w _ (FR.init hargs hle) M) ?_))
  rintro _ a' w' ⟨ex, fr', m1, X1, rfl, ⟨hne, cs, h1, rfl, rfl⟩, k1, k2, k3⟩
  obtain ⟨vs', g1, g2⟩ := resAll_ok k2 k3 h1
  have : a'.defers = [] ∧ ∃ v, (results fn a'.tmps).run P w' = .ok v w' ∧ ∃ v2 X', Ending.returned v = .returned v2 ∧ X.Le W0.heap.size X' ∧ Rep X' (resV cs) v2 ∧ MR X' W0 m1 w' :=
    ⟨k2.defers, _, results_run g2, _, X1, rfl, k1, resV_ok g1, k3⟩
  cases ex with
  | nrm => exact this
  | ret => exact this
  | exit id => exact absurd rfl (hne id)
theorem givesW_of' {F : FuncId} {fn : Func} {c : Code} {rs : List ResultVar} (hF : P.funcs[F]? = some fn) (hb : fn.body = some c) (hcb : callableB fn = true) {args : List AV} {r : AV} {m m' : Mm} {nt : Nat} (hnt : fn.ntmps = nt) (hle : Nat.ble args.length nt = true) (hrs : fn.results.toList = rs)
    (h : ∀ Q : Ex → Fr → Mm → Prop, (∀ fr m1 cs, resAll P fr m1 rs = some cs → resV cs = r → m1 = m' → Q .nrm fr m1 ∧ Q .ret fr m1) → Tr fle P nt c (initFr 0 args) m Q) : GivesW P F args m r m' := by
  subst hnt hrs
  exact givesW_of hF hb hcb (by simpa using hle) (h _ fun fr m1 cs h1 h2 h3 => ⟨⟨(fun _ h => by cases h), cs, h1, h2, h3⟩, ⟨(fun _ h => by cases h), cs, h1, h2, h3⟩⟩)
end Go.Vs.Ab
namespace Go.Vs.Ab
open Go.RowKit
variable {P : Program} {X : Mem} {W0 w w' : World} {m : Mm}
def blC {T : Type} (enc : T → List CV) (l : List T) : List AV := (l.flatMap enc).map .c
theorem plainB_blC {T : Type} {enc : T → List CV} {l : List T} : plainB (blC enc l) = true := by
  unfold blC
  cases l.flatMap enc <;> rfl
theorem lows_c (i j : Nat) : ∀ ds : List CV, lows i j (ds.map .c) = true
  | [] => rfl
  | d :: r => by
    show (low i j (.c d) && lows i j (r.map .c)) = true
    rw [lows_c i j r]
    rfl
theorem lows_blC {T : Type} {enc : T → List CV} {l : List T} {i j : Nat} : lows i j (blC enc l) = true := lows_c i j _
theorem len_blC {T : Type} {enc : T → List CV} {size : Nat} (hk : ∀ x, (enc x).length = size) (l : List T) : (blC enc l).length = l.length * size := by
  unfold blC
  rw [List.length_map, flat_length enc size hk]
theorem cleans_map : ∀ ds : List CV, cleans (ds.map .c) = some ds
  | [] => rfl
  | d :: r => by
    show cleans (.c d :: r.map .c) = _
    simp only [cleans, clean, cleans_map r]
theorem drop_blC {T : Type} {enc : T → List CV} {size : Nat} (hk : ∀ x, (enc x).length = size) {l : List T} {k : Nat} (h : k < l.length) : List.drop (k * size) (blC enc l) = (enc l[k]).map .c ++ blC enc (l.drop (k + 1)) := by
  unfold blC
  rw [← List.map_drop, flat_drop enc size hk l k h, List.map_append]
theorem fit_blC {T : Type} {enc : T → List CV} {size : Nat} (hk : ∀ x, (enc x).length = size) {l : List T} {k : Nat} (h : k < l.length) : k * size + size ≤ (blC enc l).length := by
  rw [len_blC hk]
  have : (k + 1) * size ≤ l.length * size := Nat.mul_le_mul_right _ h
  rwa [Nat.add_mul, Nat.one_mul] at this
theorem take_flat {T : Type} {enc : T → List CV} {size : Nat} (hk : ∀ x, (enc x).length = size) (l : List T) (k : Nat) : List.take (k * size) (l.flatMap enc) = (l.take k).flatMap enc := by
  induction k generalizing l with
  | zero => simp
  | succ k ih =>
    cases l with
    | nil => simp
    | cons x l =>
      rw [List.flatMap_cons, List.take_succ_cons, List.flatMap_cons, ← ih l]
      have : (k + 1) * size = (enc x).length + k * size := by rw [hk, Nat.add_mul, Nat.one_mul, Nat.add_comm]
      rw [this, List.take_append]
      have h1 : List.take ((enc x).length + k * size) (enc x) = enc x := List.take_of_length_le (by omega)
      rw [h1]
      congr 2
      omega
theorem drop_flat {T : Type} {enc : T → List CV} {size : Nat} (hk : ∀ x, (enc x).length = size) (l : List T) (k : Nat) : List.drop (k * size) (l.flatMap enc) = (l.drop k).flatMap enc := by
  induction k generalizing l with
  | zero => simp
  | succ k ih =>
    cases l with
    | nil => simp
    | cons x l =>
      rw [List.flatMap_cons, List.drop_succ_cons, ← ih l]
      have : (k + 1) * size = (enc x).length + k * size := by rw [hk, Nat.add_mul, Nat.one_mul, Nat.add_comm]
      rw [this, ← List.drop_drop, List.drop_left' rfl]
theorem set_blC {T : Type} {enc : T → List CV} {size : Nat} (hk : ∀ x, (enc x).length = size) {l : List T} {k : Nat} (h : k < l.length) (x : T) : List.take (k * size) (blC enc l) ++ (enc x).map AV.c ++ List.drop (k * size + size) (blC enc l) = blC enc (l.set k x) := by
  unfold blC
  have e : k * size + size = (k + 1) * size := by rw [Nat.add_mul, Nat.one_mul]
  rw [← List.map_take, ← List.map_drop, e, take_flat hk, drop_flat hk, List.set_eq_take_append_cons_drop, if_pos h, List.flatMap_append, List.flatMap_cons, List.map_append, List.map_append, List.append_assoc]
theorem idxL {t e : TypeId} {size : Nat} (ht : P.underlying t = some (.slice e)) (hs : tsz P e = some size) (h0 : 0 < size) {b lo n k : Nat} {ik : IntKind} (h : k < n) : aIndexL P t (.lsl b lo n size) (.c (.v (.int ik (k : Int)))) = some (.ptr b ((lo + k) * size)) := by
  have h1 : Nat.blt k n = true := by simpa using h
  have h2 : Nat.blt 0 size = true := by simpa using h0
  have hn : natI (k : Int) = some k := natI_nat k
  simp only [aIndexL, ht, lsV, intV, hs, hn, h1, h2, Nat.beq_refl, Bool.and_self, if_true]
theorem slL_from {t e : TypeId} {size : Nat} (ht : P.underlying t = some (.slice e)) (hs : tsz P e = some size) {b lo n k : Nat} (h : k ≤ n) : aSliceL P t (.lsl b lo n size) (some (k : Int)) none none = some (.lsl b (lo + k) (n - k) size) := by
  have hb : bnds n (some (k : Int)) none none = some (k, n, none) := by
    unfold bnds
    simp [natI_nat, h]
  simp only [aSliceL, ht, lsV, hs, hb, Nat.beq_refl, if_true]
theorem slL_to {t e : TypeId} {size : Nat} (ht : P.underlying t = some (.slice e)) (hs : tsz P e = some size) {b lo n k : Nat} (h : k ≤ n) : aSliceL P t (.lsl b lo n size) none (some (k : Int)) none = some (.lsl b lo k size) := by
  have hb : bnds n none (some (k : Int)) none = some (0, k, none) := by
    unfold bnds
    simp [natI_nat, h]
  simp only [aSliceL, ht, lsV, hs, hb, Nat.beq_refl, if_true, Nat.add_zero, Nat.sub_zero]
theorem zrs_rep {T : Type} {enc : T → List CV} (z : T) (n : Nat) (h : 0 < (enc z).length) : zrs n (enc z) = blC enc (List.replicate n z) := by
  have key : ∀ n, (List.range (n * (enc z).length)).map (fun i => (enc z).getD (i % (enc z).length) default) = (List.replicate n z).flatMap enc := fun n => by
    induction n with
    | zero => simp
    | succ n ih =>
      rw [List.replicate_succ', List.flatMap_append, ← ih, Nat.add_mul, Nat.one_mul, List.range_add, List.map_append]
      congr 1
      simp only [List.flatMap_cons, List.flatMap_nil, List.append_nil, List.map_map]
      apply List.ext_getElem?
      intro i
      rw [List.getElem?_map]
      by_cases hi : i < (enc z).length
      · rw [List.getElem?_range hi]
        simp only [Option.map_some, Function.comp]
        rw [Nat.add_comm, Nat.add_mul_mod_self_right, Nat.mod_eq_of_lt hi, List.getD_eq_getElem?_getD, List.getElem?_eq_getElem hi]
        rfl
      · rw [List.getElem?_eq_none (by simpa using hi), List.getElem?_eq_none (Nat.le_of_not_lt hi)]
        rfl
  unfold zrs blC
  rw [key]
theorem clear_blC {T : Type} {enc : T → List CV} {size : Nat} (hk : ∀ x, (enc x).length = size) (h0 : 0 < size) {t e : TypeId} (ht : P.underlying t = some (.slice e)) {z : T} (hz : tzero P e = some (enc z)) {l : List T} {i : Nat} (hi : i ≤ l.length) {hw : List Hw} :
    aClear P ⟨[⟨false, blC enc l⟩], hw⟩ t (.lsl 0 i (l.length - i) size) = some ⟨[⟨false, blC enc (l.take i ++ List.replicate (l.length - i) z)⟩], hw⟩ := by
  simp only [aClear, ht, lsV, hz]
  by_cases hn : l.length - i = 0
  · rw [hn]
    rw [if_pos (by rfl)]
    rw [List.take_of_length_le (by omega)]
    simp
  · have hb : Nat.beq (l.length - i) 0 = false := by
      rw [Bool.eq_false_iff]
      exact fun e => hn (Nat.eq_of_beq_eq_true e)
    have hle : Nat.ble (i * size + (l.length - i) * size) (blC enc l).length = true := by
      rw [len_blC hk, ← Nat.add_mul, Nat.ble_eq]
      exact Nat.mul_le_mul_right _ (by omega)
    simp only [hb, if_false, List.getElem?_cons_zero, hk, Nat.beq_refl, plainB_blC, hle, Bool.not_false, Bool.and_self, if_true, Bool.false_eq_true]
    rw [zrs_rep z _ (by rw [hk]; exact h0)]
    have e1 : List.drop (i * size + (l.length - i) * size) (blC enc l) = [] := by
      apply List.drop_eq_nil_of_le
      rw [len_blC hk, ← Nat.add_mul]
      exact Nat.mul_le_mul_right _ (by omega)
    rw [e1, List.append_nil]
    unfold blC
    rw [← List.map_take, take_flat hk, ← List.map_append, ← List.flatMap_append]
    rfl
theorem GivesW.freeze {F : FuncId} {args : List AV} {b lo n k : Nat} {m1 : Mm} (h : GivesW P F args m (.lsl b lo n k) m1) {ds : List CV} (hb : m1.hp[b]? = some ⟨false, ds.map .c⟩) :
    GivesW P F args m (.c (.sl false n ((ds.drop (lo * k)).take (n * k)))) { m1 with hp := m1.hp.set b ⟨true, ds.map .c⟩ } := by
  refine ⟨h.1, fun X W0 w vs M hargs => (h.2 X W0 w vs M hargs).mono ?_⟩
  rintro _ w' ⟨v, X1, rfl, k1, k2, k3⟩
  have hz : aFreeze m1 b = some { m1 with hp := m1.hp.set b ⟨true, ds.map .c⟩ } := by
    simp only [aFreeze, hb, cleans_map]
    rfl
  obtain ⟨X2, l1, l2, _⟩ := aFreeze_ok k3 hz
  have hlt := (List.getElem?_eq_some_iff.1 hb).1
  refine ⟨v, X2, rfl, k1.trans l1, ?_, l2⟩
  have k4 := k2.mono l1
  cases k4 with
  | lsl hl ho hn hcap hrm =>
    rename_i β o cap
    have hf : fixedAt { m1 with hp := m1.hp.set b ⟨true, ds.map .c⟩ } (.ptr b (lo * k)) = some (ds.drop (lo * k)) := by
      simp only [fixedAt, List.getElem?_set_self hlt, if_true, cleans_map, Option.map_some]
    obtain ⟨b', o', xs, e, r1, r2⟩ := fixedAt_rep l2 hf (.ptr hl)
    injection e with e
    injection e with e
    injection e with e1 e2
    subst e1 e2
    have q1 := r1.take (n * k)
    have q2 := r2.take (n * k)
    refine .c (.sl q1.1 q1.2 hn ⟨hcap, fun e => by cases e⟩ (fun e => by cases e) ?_)
    rcases Nat.eq_zero_or_pos cap with h0 | h0
    · have : n = 0 := by omega
      subst this
      rw [Nat.zero_mul, List.take_zero]
      exact fun j x h => by cases h
    · rw [ho h0]
      exact q2
attribute [go_sem] plainB_blC
end Go.Vs.Ab
namespace Go.Vs.Ab
open Go.RowKit
variable {P : Program} {X : Mem} {W0 w w' : World} {m : Mm} {nt : Nat} {fr : Fr} {Q : Ex → Fr → Mm → Prop}
def allV : List CV → Bool
  | [] => true
  | .v _ :: r => allV r
  | .sl .. :: _ => false
def free : AV → Bool
  | .c (.v _) => true
  | .agg cs => allV cs
  | .ptr _ _ => true
  | .mapp _ => true
  | _ => false
def frees : List AV → Bool
  | [] => true
  | c :: r => free c && frees r
def freeB : List Blk → Bool
  | [] => true
  | b :: r => !b.fz && (frees b.cs && freeB r)
theorem allV_rep {C D : Nat → Nat → Option Value} : ∀ {cs : List CV} {xs : List Value}, allV cs = true → RepCs C cs xs → RepCs D cs xs := fun {cs xs} h hr => by
  refine ⟨hr.1, fun i c x h1 h2 => ?_⟩
  have key : ∀ {cs : List CV} (i : Nat) (c : CV), allV cs = true → cs[i]? = some c → ∃ v, c = .v v := fun {cs} => by
    induction cs with
    | nil => intro i c _ h; simp at h
    | cons d r ih =>
      intro i c ha hc
      cases d with
      | v x =>
        cases i with
        | zero => simp at hc; exact ⟨x, hc.symm⟩
        | succ i => exact ih i c ha (by simpa using hc)
      | sl => cases ha
  obtain ⟨v, rfl⟩ := key i c h h1
  have := hr.2 i _ x h1 h2
  cases this with
  | v h => exact .v h
theorem Rep.free {Y : Mem} {c : AV} {x : Value} (h : Rep X c x) (hf : Ab.free c = true) (hl : ∀ i β, X.loc i = some β → Y.loc i = some β) : Rep Y c x := by
  cases h with
  | c h =>
    cases h with
    | v h => exact .c (.v h)
    | sl => cases hf
  | agg h => exact .agg (allV_rep hf h)
  | ptr h => exact .ptr (hl _ _ h)
  | mapp h => exact .mapp (hl _ _ h)
  | tup => cases hf
  | own => cases hf
  | cptr => cases hf
  | fn => cases hf
  | lsl => cases hf
  | ifc => cases hf
  | strc => cases hf
theorem frees_get : ∀ {cs : List AV}, frees cs = true → ∀ (k : Nat) (c : AV), cs[k]? = some c → free c = true
  | [], _, k, c, h => by simp at h
  | x :: r, h, k, c, hc => by
    simp only [frees, Bool.and_eq_true] at h
    cases k with
    | zero => simp at hc; subst hc; exact h.1
    | succ k => exact frees_get h.2 k c (by simpa using hc)
theorem freeB_get : ∀ {bs : List Blk}, freeB bs = true → ∀ (k : Nat) (b : Blk), bs[k]? = some b → b.fz = false ∧ frees b.cs = true
  | [], _, k, b, h => by simp at h
  | x :: r, h, k, b, hb => by
    simp only [freeB, Bool.and_eq_true, Bool.not_eq_true'] at h
    cases k with
    | zero => simp at hb; subst hb; exact ⟨h.1, h.2.1⟩
    | succ k => exact freeB_get h.2.2 k b (by simpa using hb)
def Mem.old (X : Mem) (base : Nat) : Mem := ⟨fun b o => if b < base then X.cell b o else none, X.loc, fun _ => none, X.room⟩
theorem MR.old (M : MR X W0 m w) (hb : freeB m.hp = true) : MR (X.old W0.heap.size) W0 ⟨m.hp, []⟩ w := by
  have hsub : ∀ b o x, (X.old W0.heap.size).cell b o = some x → X.cell b o = some x := fun b o x h => by
    simp only [Mem.old] at h
    split at h
    · exact h
    · cases h
  have hno : ∀ β, (∀ o, X.cell β o = none) → ∀ o, (X.old W0.heap.size).cell β o = none := fun β h o => by
    simp only [Mem.old]
    split
    · exact h o
    · rfl
  refine ⟨M.below, fun b o x h => M.cell b o x (hsub b o x h), M.ldom, fun i blk h => ?_, M.inj, fun k T h => (by cases h), fun k n h => (by simp at h), fun i j S T h => (by cases h), M.gl, M.rm⟩
  obtain ⟨β, h1, h2, h3, hB⟩ := M.locs i blk h
  obtain ⟨hfz, hfr⟩ := freeB_get hb i blk h
  refine ⟨β, h1, h2, h3, ?_⟩
  cases hB with
  | dead h => exact .dead h
  | ent g1 g2 g3 g4 g5 => exact .ent g1 g2 g3 g4 (hno β g5)
  | bld g1 => rw [g1] at hfr; cases hfr
  | byt g1 => rw [g1] at hfr; cases hfr
  | cells g1 g2 g3 g4 g5 =>
    refine .cells g1 g2 ⟨g3.1, fun k c x q1 q2 => (g3.2 k c x q1 q2).free (frees_get hfr k c q1) fun _ _ h => h⟩ (fun e => by rw [hfz] at e; cases e) (fun e => hno β (g5 e))
end Go.Vs.Ab
