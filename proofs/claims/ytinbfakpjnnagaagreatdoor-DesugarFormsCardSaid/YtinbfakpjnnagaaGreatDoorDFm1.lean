/-
  Part 1 of the proof's own texts: general lemmas and contracts of functions, laid one behind the other.
-/
import Derived.Test.YtinbfakpjnnagaaGreatDoorDFm0
import Derived.Test.YtinbfakpjnnagaaGreatDoorDFOn
import Derived.Test.YtinbfakpjnnagaaGreatDoorDFAm
set_option linter.unusedSimpArgs false
set_option linter.unusedVariables false
namespace Go.Proofs.YtinbfakpjnnagaaGreatDoor
open Go.Vs Go.Vs.Ab
/-! ### the first error of several -/
def firstE (f : Nat → Int) (n : Nat) : Int := match (List.range n).find? (fun i => decide (f i ≠ 0)) with
  | some i => f i
  | none => 0
theorem firstE_hit {f : Nat → Int} {n k : Nat} (h : ∀ j, j < k → f j = 0) (hk : k < n) (he : f k ≠ 0) : firstE f n = f k := by
  have e : (List.range n).find? (fun i => decide (f i ≠ 0)) = some k := by
    rw [List.find?_range_eq_some]
    refine ⟨by simpa using he, by simpa using hk, fun j hj => by simpa using h j hj⟩
  unfold firstE
  rw [e]
theorem firstE_none {f : Nat → Int} {n : Nat} (h : ∀ j, j < n → f j = 0) : firstE f n = 0 := by
  have e : (List.range n).find? (fun i => decide (f i ≠ 0)) = none := by
    rw [List.find?_eq_none]
    intro x hx
    simpa using h x (by simpa using hx)
  unfold firstE
  rw [e]
theorem firstE_zero {f : Nat → Int} {n : Nat} (h : firstE f n = 0) : ∀ j, j < n → f j = 0 := fun j hj => by
  refine Decidable.byContradiction fun he => ?_
  unfold firstE at h
  cases e : (List.range n).find? (fun i => decide (f i ≠ 0)) with
  | none =>
    rw [List.find?_eq_none] at e
    have := e j (by simpa using hj)
    simp at this
    exact he this
  | some i =>
    rw [e] at h
    have := List.find?_some e
    simp at this
    exact this h
/-! ### chapter 12's reference -/
def prinM (l : List ByteArray) (w : ByteArray) : Bool := l.any fun x => decide (x = w)
theorem prinM_iff {l : List ByteArray} {w : ByteArray} : prinM l w = true ↔ w ∈ l := by
  unfold prinM
  rw [List.any_eq_true]
  exact ⟨fun ⟨x, hx, e⟩ => of_decide_eq_true e ▸ hx, fun h => ⟨w, h, decide_eq_true rfl⟩⟩
def arityF : List Prd → ByteArray → Int × Bool
  | [], _ => (0, false)
  | x :: l, s => if x.name = s then (x.ar, true) else arityF l s
def atom12 (p : Pol) (a : Atm) : Int :=
  if pcheck3 a ≠ 0 then pcheck3 a
  else if prinM p.prin a.says = false then 6
  else if (arityF p.preds a.pred).2 = false then 7
  else if (arityF p.preds a.pred).1 ≠ a.n then 8
  else 0
def bAt (l : List ByteArray) (i : Nat) : ByteArray := (l[i]?).getD ⟨#[]⟩
def z12 : Atm := ⟨⟨#[]⟩, ⟨#[]⟩, 0, ⟨false, ⟨#[]⟩⟩, ⟨false, ⟨#[]⟩⟩, ⟨false, ⟨#[]⟩⟩, ⟨false, ⟨#[]⟩⟩⟩
def aAt (l : List Atm) (i : Nat) : Atm := (l[i]?).getD z12
def pAt (l : List Prd) (i : Nat) : Prd := (l[i]?).getD ⟨⟨#[]⟩, 0⟩
def cAt (l : List Clr) (i : Nat) : Clr := (l[i]?).getD ⟨⟨#[]⟩, true, []⟩
def rAt (l : List Rul) (i : Nat) : Rul := (l[i]?).getD ⟨z12, true, []⟩
def gAt (l : List Grt) (i : Nat) : Grt := (l[i]?).getD ⟨⟨#[]⟩, z12, true, []⟩
theorem at_get {T : Type} {l : List T} {i : Nat} {z : T} (h : i < l.length) : (l[i]?).getD z = l[i] := by
  rw [List.getElem?_eq_getElem h]; rfl
def prinE (l : List ByteArray) (i : Nat) : Int := if pprincipal (bAt l i) = false then 3 else if prinM (l.take i) (bAt l i) = true then 5 else 0
def prin12 (l : List ByteArray) : Int := if (l.length : Int) < 1 ∨ (l.length : Int) > 16 then 4 else firstE (prinE l) l.length
def predE (l : List Prd) (i : Nat) : Int := if pprincipal (pAt l i).name = false then 3 else if (arityF (l.take i) (pAt l i).name).2 = true then 5 else if (pAt l i).ar < 0 ∨ (pAt l i).ar > 4 then 4 else 0
def pred12 (l : List Prd) : Int := if (l.length : Int) > 32 then 4 else firstE (predE l) l.length
def clrE (P : List ByteArray) (c : Clr) (i : Nat) : Int := if prinM P (bAt c.reads i) = false then 6 else if bAt c.reads i = c.who then 11 else if prinM (c.reads.take i) (bAt c.reads i) = true then 5 else 0
def clr12 (P : List ByteArray) (c : Clr) : Int := if (c.reads.length : Int) < 1 ∨ (c.reads.length : Int) > 16 then 4 else firstE (clrE P c) c.reads.length
def clrsE (P : List ByteArray) (l : List Clr) (i : Nat) : Int := if prinM P (cAt l i).who = false then 6 else if prinM ((l.take i).map (·.who)) (cAt l i).who = true then 5 else clr12 P (cAt l i)
def clrs12 (P : List ByteArray) (l : List Clr) : Int := firstE (clrsE P l) l.length
def clause12 (p : Pol) (h : Atm) (b : List Atm) : Int := if atom12 p h ≠ 0 then atom12 p h else if (b.length : Int) > 6 then 4 else firstE (fun i => atom12 p (aAt b i)) b.length
def inB (v : ByteArray) (b : List Atm) : Bool := b.any fun a => (List.range a.count).any fun n => decide (a.arg n = ⟨true, v⟩)
def ranged12 (h : Atm) (b : List Atm) : Bool := (pnames h true).all fun v => inB v b
def ruleE (p : Pol) (i : Nat) : Int := if clause12 p (rAt p.rules i).head (rAt p.rules i).body ≠ 0 then clause12 p (rAt p.rules i).head (rAt p.rules i).body else if ranged12 (rAt p.rules i).head (rAt p.rules i).body = false then 9 else 0
def grtE (p : Pol) (i : Nat) : Int := if prinM p.prin (gAt p.grants i).tw = false then 6 else if (gAt p.grants i).tw = (gAt p.grants i).head.says then 11 else clause12 p (gAt p.grants i).head (gAt p.grants i).body
def long12 (p : Pol) : Bool := decide (p.quota < 0) || decide (p.quota > 1000) || decide (p.budget < 1) || decide (p.budget > 1048576) || decide ((p.rules.length : Int) > 64) || decide ((p.grants.length : Int) > 64) || decide ((p.rules.length : Int) + (p.grants.length : Int) > 64)
def head12 (p : Pol) : Int := if prin12 p.prin ≠ 0 then prin12 p.prin else if pred12 p.preds ≠ 0 then pred12 p.preds else clrs12 p.prin p.clears
def check12 (p : Pol) : Int :=
  if head12 p ≠ 0 then head12 p
  else if long12 p = true then 4
  else if firstE (ruleE p) p.rules.length ≠ 0 then firstE (ruleE p) p.rules.length
  else firstE (grtE p) p.grants.length
/-! ### what follows from a policy being well-formed -/
structure Formed (p : Pol) : Prop where
  prin : ∀ s ∈ p.prin, pprincipal s = true
  rules : ∀ r ∈ p.rules, atom12 p r.head = 0 ∧ (∀ a ∈ r.body, atom12 p a = 0) ∧ r.body.length ≤ 6 ∧ ranged12 r.head r.body = true
  grants : ∀ g ∈ p.grants, prinM p.prin g.tw = true ∧ atom12 p g.head = 0 ∧ (∀ a ∈ g.body, atom12 p a = 0) ∧ g.body.length ≤ 6
theorem clause12_ok {p : Pol} {h : Atm} {b : List Atm} (e : clause12 p h b = 0) : atom12 p h = 0 ∧ (∀ a ∈ b, atom12 p a = 0) ∧ b.length ≤ 6 := by
  unfold clause12 at e
  split at e
  · rename_i h1; exact absurd e h1
  · rename_i h1
    split at e
    · cases e
    · rename_i h2
      refine ⟨by simpa using h1, fun a ha => ?_, by omega⟩
      obtain ⟨i, hi, rfl⟩ := List.mem_iff_getElem.1 ha
      have := firstE_zero e i hi
      unfold aAt at this
      rwa [at_get hi] at this
theorem check12_formed {p : Pol} (h : check12 p = 0) : Formed p := by
  unfold check12 at h
  split at h
  · rename_i h1; exact absurd h h1
  rename_i h1
  split at h
  · cases h
  split at h
  · rename_i h3; exact absurd h h3
  rename_i h3
  have h3 : firstE (ruleE p) p.rules.length = 0 := by simpa using h3
  refine ⟨fun s hs => ?_, fun r hr => ?_, fun g hg => ?_⟩
  · have h1 : head12 p = 0 := by simpa using h1
    unfold head12 at h1
    split at h1
    · rename_i h2; exact absurd h1 h2
    · rename_i h2
      have h2 : prin12 p.prin = 0 := by simpa using h2
      unfold prin12 at h2
      split at h2
      · cases h2
      · obtain ⟨i, hi, rfl⟩ := List.mem_iff_getElem.1 hs
        have := firstE_zero h2 i hi
        unfold prinE bAt at this
        rw [at_get hi] at this
        cases hp : pprincipal p.prin[i] with
        | true => rfl
        | false => rw [hp, if_pos rfl] at this; cases this
  · obtain ⟨i, hi, rfl⟩ := List.mem_iff_getElem.1 hr
    have := firstE_zero h3 i hi
    unfold ruleE rAt at this
    rw [at_get hi] at this
    split at this
    · rename_i h4; exact absurd this h4
    · rename_i h4
      have h4 : clause12 p p.rules[i].head p.rules[i].body = 0 := by simpa using h4
      obtain ⟨q1, q2, q3⟩ := clause12_ok h4
      refine ⟨q1, q2, q3, ?_⟩
      cases hr : ranged12 p.rules[i].head p.rules[i].body with
      | true => rfl
      | false => rw [hr, if_pos rfl] at this; cases this
  · obtain ⟨i, hi, rfl⟩ := List.mem_iff_getElem.1 hg
    have := firstE_zero h i hi
    unfold grtE gAt at this
    rw [at_get hi] at this
    cases hp : prinM p.prin p.grants[i].tw with
    | false => rw [hp, if_pos rfl] at this; cases this
    | true =>
      rw [hp, if_neg (by decide)] at this
      split at this
      · cases this
      · obtain ⟨q1, q2, q3⟩ := clause12_ok this
        exact ⟨rfl, q1, q2, q3⟩
theorem atom12_zero {p : Pol} {a : Atm} (h : atom12 p a = 0) : pcheck3 a = 0 ∧ prinM p.prin a.says = true ∧ (arityF p.preds a.pred).2 = true ∧ (arityF p.preds a.pred).1 = a.n := by
  unfold atom12 at h
  split at h
  · rename_i h1; exact absurd h h1
  rename_i h1
  split at h
  · cases h
  rename_i h2
  split at h
  · cases h
  rename_i h3
  split at h
  · cases h
  rename_i h4
  exact ⟨by simpa using h1, by simpa using h2, by simpa using h3, by simpa using h4⟩
def leadA (g : Grt) : Atm := { g.head with says := g.tw }
theorem lead_arg (g : Grt) (k : Nat) : (leadA g).arg k = g.head.arg k := by
  unfold leadA Atm.arg
  split <;> rfl
theorem lead12 {p : Pol} (hf : Formed p) {g : Grt} (hg : g ∈ p.grants) : atom12 p (leadA g) = 0 := by
  obtain ⟨h1, h2, _, _⟩ := hf.grants g hg
  obtain ⟨c1, c2, c3, c4⟩ := atom12_zero h2
  obtain ⟨d1, d2, d3, d4, d5, d6⟩ := check3_zero c1
  have hc : pcheck3 (leadA g) = 0 := check3_ok (hf.prin _ (prinM_iff.1 h1)) d2 d3 d4 d5 d6
  unfold atom12
  rw [if_neg (by rw [hc]; simp), if_neg (by rw [show (leadA g).says = g.tw from rfl, h1]; decide), if_neg (by rw [show (leadA g).pred = g.head.pred from rfl, c3]; decide), if_neg (by rw [show (leadA g).pred = g.head.pred from rfl, show (leadA g).n = g.head.n from rfl]; simpa using c4)]
/-! ### the clauses -/
structure Cls where
  head : Atm
  ex : Bool
  body : List Atm
def ruCls (r : Rul) : Cls := ⟨r.head, r.body.isEmpty, r.body⟩
def grCls (g : Grt) : Cls := ⟨g.head, false, leadA g :: g.body⟩
def clausesF (p : Pol) : List Cls := p.rules.map ruCls ++ p.grants.map grCls
theorem clauses_len (p : Pol) : (clausesF p).length = p.rules.length + p.grants.length := by
  unfold clausesF
  rw [List.length_append, List.length_map, List.length_map]
theorem clauses_body {p : Pol} (hf : Formed p) : ∀ c ∈ clausesF p, ∀ a ∈ c.body, atom12 p a = 0 := fun c hc a ha => by
  unfold clausesF at hc
  rw [List.mem_append] at hc
  rcases hc with hc | hc
  · obtain ⟨r, hr, rfl⟩ := List.mem_map.1 hc
    exact (hf.rules r hr).2.1 a ha
  · obtain ⟨g, hg, rfl⟩ := List.mem_map.1 hc
    have ha : a ∈ leadA g :: g.body := ha
    rcases List.mem_cons.1 ha with rfl | ha
    · exact lead12 hf hg
    · exact (hf.grants g hg).2.2.1 a ha
end Go.Proofs.YtinbfakpjnnagaaGreatDoor
namespace Go.Vs.Ab
open Go.RowKit
variable {P : Program} {X : Mem} {W0 w w' : World} {m : Mm}
inductive OT where
  | fin
  | stop
  | one (i : Nat) (t : OT)
  | br (i : Nat) (t more : OT)
def OT.heads : OT → List Nat
  | .br i _ more => i :: more.heads
  | _ => []
def chkT (md : Region.Mode) (ops : Array Oper) : OT → Bool → Nat → Array Bool → Bool
  | .fin, false, 0, listed => (Region.ready md ops listed).isEmpty
  | .one i t, false, n + 1, listed => (Region.ready md ops listed).contains i && Region.free md ops listed i && chkT md ops t false n (listed.setIfInBounds i true)
  | .br i t more, false, n + 1, listed => (Region.ready md ops listed == i :: more.heads) && (chkT md ops t false n (listed.setIfInBounds i true) && chkT md ops more true (n + 1) listed)
  | .br i t more, true, n + 1, listed => chkT md ops t false n (listed.setIfInBounds i true) && chkT md ops more true (n + 1) listed
  | .stop, true, _, _ => true
  | _, _, _, _ => false
def treeB (l : List Oper) (t : OT) : Bool := Region.noSelect l.toArray && chkT .any l.toArray t false l.length (Array.replicate l.length false)
end Go.Vs.Ab
namespace Go.Vs.Ab
open Go.RowKit
variable {P : Program} {X : Mem} {W0 w w' : World} {m : Mm} {nt : Nat}
/-! ### an operation reads its operands' slots alone -/
/-! ### whatever the order -/
def isApp : Op → Bool
  | .call c => match c.callee with
    | .builtin .append => true
    | _ => false
  | _ => false
def AppE (nt : Nat) (fr : Fr) (m : Mm) (dst : Option Tmp) (K : Fr → Prop) : Option Ev → Prop
  | some (.loud (.own _ n cs) m1) => (m1.hp = m.hp ∧ m1.hw.take m.hw.length = m.hw) ∧ PutW nt fr dst (.c (.sl false n cs)) K
  | _ => False
def AppW (P : Program) (nt : Nat) (ops : Array Oper) (o : Oper) (fr : Fr) (m : Mm) (b : Option Bool) (K : Fr → Prop) : Prop :=
  match b with
  | none => False
  | some false => PutW nt fr o.dst (.tup []) K
  | some true => AppE nt fr m o.dst K (evOp P fr m o)
theorem appW_true {ops : Array Oper} {o : Oper} {fr : Fr} {K : Fr → Prop} : AppW P nt ops o fr m (some true) K = AppE nt fr m o.dst K (evOp P fr m o) := rfl
theorem appW_false {ops : Array Oper} {o : Oper} {fr : Fr} {K : Fr → Prop} : AppW P nt ops o fr m (some false) K = PutW nt fr o.dst (.tup []) K := rfl
theorem appE_own {fr : Fr} {dst : Option Tmp} {K : Fr → Prop} {k n : Nat} {cs : List CV} {m1 : Mm} : AppE nt fr m dst K (some (.loud (.own k n cs) m1)) = ((m1.hp = m.hp ∧ m1.hw.take m.hw.length = m.hw) ∧ PutW nt fr dst (.c (.sl false n cs)) K) := rfl
@[congr] theorem appW_congr {ops : Array Oper} {o : Oper} {fr : Fr} {b b' : Option Bool} {K : Fr → Prop} (h : b = b') : AppW P nt ops o fr m b K = AppW P nt ops o fr m b' K := by rw [h]
@[congr] theorem appE_congr {fr : Fr} {dst : Option Tmp} {K : Fr → Prop} {e e' : Option Ev} (h : e = e') : AppE nt fr m dst K e = AppE nt fr m dst K e' := by rw [h]
def SeqM (P : Program) (nt : Nat) (ops : Array Oper) : List Oper → Fr → Mm → (Fr → Mm → Prop) → Prop
  | [], fr, m, Q => Q fr m
  | o :: r, fr, m, Q => if isApp o.op then AppW P nt ops o fr m (aWanted ops fr o) fun fr' => SeqM P nt ops r fr' m Q else StepW P nt ops o fr m fun kd fr' m' => (True ∧ m' = m) ∧ SeqM P nt ops r fr' m' Q
/-! ### what a world lets a value lead to -/
theorem lows_of {i j : Nat} : ∀ {cs : List AV}, (∀ (k : Nat) (c : AV), cs[k]? = some c → low i j c = true) → lows i j cs = true
  | [], _ => rfl
  | c :: r, h => by
    simp only [lows, Bool.and_eq_true]
    exact ⟨h 0 c rfl, lows_of fun k d hd => h (k + 1) d (by simpa using hd)⟩
theorem Rep.low {A B : Nat} (hl : ∀ i β, X.loc i = some β → i < A) (ho : ∀ k T, X.own k = some T → k < B) {c : AV} {x : Value} (h : Rep X c x) : Ab.low A B c = true := by
  have key : ∀ {vs : List AV} {xs : List Value}, vs.length = xs.length → (∀ (i : Nat) (c : AV) (x : Value), vs[i]? = some c → xs[i]? = some x → Ab.low A B c = true) → lows A B vs = true := fun {vs xs} hlen ih => lows_of fun k c hc => by
    have hk := (List.getElem?_eq_some_iff.1 hc).1
    exact ih k c _ hc (List.getElem?_eq_getElem (by rw [← hlen]; exact hk))
  induction h with
  | c h => rfl
  | agg h => rfl
  | tup hl' _ ih => simp only [Ab.low]; exact key hl' ih
  | own h hn hc hx ht =>
    obtain ⟨T, h1, _⟩ := ht
    simp only [Ab.low, Nat.blt_eq]
    exact ho _ T h1
  | ptr h => simp only [Ab.low, Nat.blt_eq]; exact hl _ _ h
  | cptr h hx => rfl
  | fn h1 _ h3 _ ih1 ih2 => simp only [Ab.low, Bool.and_eq_true]; exact ⟨key h1 ih1, key h3 ih2⟩
  | lsl h _ _ _ _ => simp only [Ab.low, Nat.blt_eq]; exact hl _ _ h
  | mapp h => simp only [Ab.low, Nat.blt_eq]; exact hl _ _ h
  | ifc _ ih => simp only [Ab.low]; exact ih
  | strc hl' _ _ ih => simp only [Ab.low]; exact key hl' ih
theorem MR.lowB (M : MR X W0 m w) : Ab.lowB m.hp.length m.hw.length m.hp = true := by
  have key : ∀ l : List Blk, (∀ b ∈ l, lows m.hp.length m.hw.length b.cs = true) → Ab.lowB m.hp.length m.hw.length l = true := fun l => by
    induction l with
    | nil => intro _; rfl
    | cons b l ih =>
      intro h
      simp only [Ab.lowB, Bool.and_eq_true]
      exact ⟨h b (by simp), ih fun c hc => h c (by simp [hc])⟩
  refine key _ fun b hb => ?_
  obtain ⟨i, hi, rfl⟩ := List.mem_iff_getElem.1 hb
  obtain ⟨β, _, _, _, hB⟩ := M.locs i m.hp[i] (List.getElem?_eq_getElem hi)
  cases hB with
  | dead h => rw [h]; rfl
  | ent h _ _ _ _ => rw [h]; rfl
  | byt h => rw [h]; rfl
  | bld h _ hv _ _ =>
    rw [h]
    simp only [lows, Ab.low, Bool.and_true]
    exact Rep.low (fun i β h => M.ldom i β h) (fun k T h => M.odom k T h) hv
  | cells _ _ hr _ _ =>
    refine lows_of fun k c hc => ?_
    have hk := (List.getElem?_eq_some_iff.1 hc).1
    have hlen := hr.1
    exact Rep.low (fun i β h => M.ldom i β h) (fun k T h => M.odom k T h) (hr.2 k c _ hc (List.getElem?_eq_getElem (by rw [← hlen]; exact hk)))
section
variable {l : List Oper} {A : List Nat}
end
@[congr] theorem seqM_congr {ops : Array Oper} {l : List Oper} {fr fr' : Fr} {m m' : Mm} {Q : Fr → Mm → Prop} (h : fr = fr') (hm : m = m') : SeqM P nt ops l fr m Q = SeqM P nt ops l fr' m' Q := by rw [h, hm]
attribute [go_sem] SeqM isStore isApp appW_true appW_false appE_own
end Go.Vs.Ab
namespace Go.Proofs.YtinbfakpjnnagaaGreatDoor
open Go.Vs Go.Vs.Ab
set_option maxRecDepth 100000
set_option maxHeartbeats 4000000
theorem idxS12 {ex : Bool} {l : List ByteArray} {k : Nat} (h : k < l.length) : aIndexAddr Tryz.prog 22 (.c (slC stC ex l)) (.c (.v (.int .i64 (k : Int)))) = some (.cptr (stC l[k] ++ (l.drop (k + 1)).flatMap stC)) :=
  idx_R stC 1 (fun _ => rfl) Tryz.underlying22 sz9 (by decide) h
theorem idxA12 {ex : Bool} {l : List Atm} {k : Nat} (h : k < l.length) : aIndexAddr Tryz.prog 34 (.c (slC atC ex l)) (.c (.v (.int .i64 (k : Int)))) = some (.cptr (atC l[k] ++ (l.drop (k + 1)).flatMap atC)) :=
  idx_R atC 11 (fun _ => rfl) Tryz.underlying34 sz33 (by decide) h
theorem sl_uptoE {P : Program} {T : Type} (enc : T → List CV) (k : Nat) (hk : ∀ x, (enc x).length = k) {t e : TypeId} (ht : P.underlying t = some (.slice e)) (he : tsz P e = some k) {ex : Bool} {l : List T} {j : Nat} (hj : j < l.length) :
    aSlice P t (.c (slC enc ex l)) none (some (j : Int)) none = some (.c (slC enc false (l.take j))) := by
  have h1 : Nat.ble (j * k) (l.flatMap enc).length = true := by
    rw [flat_length enc k hk, Nat.ble_eq]
    exact Nat.mul_le_mul_right _ (Nat.le_of_lt hj)
  have h3 : slV (.c (slC enc ex l)) = some (l.length, l.flatMap enc) := rfl
  have h4 : bnds l.length none (some (j : Int)) none = some (0, j, none) := by
    unfold bnds
    simp [natI_nat, Nat.le_of_lt hj]
  have h6 : (l.take j).length = j := by rw [List.length_take]; omega
  have h7 : Nat.beq j l.length = false := by
    rw [Bool.eq_false_iff]
    exact fun e => absurd (Nat.eq_of_beq_eq_true e) (by omega)
  simp only [aSlice, ht, h3, he, h4, h1, if_true, resl, Nat.zero_mul, List.drop_zero, Nat.sub_zero, (flat_cut enc k hk (Nat.le_of_lt hj)).1, Nat.beq_refl, Bool.true_and, h7, if_false, Bool.false_eq_true, slC, h6]
  cases ex <;> rfl
theorem upS {ex : Bool} {l : List ByteArray} {j : Nat} (hj : j < l.length) : aSlice Tryz.prog 22 (.c (slC stC ex l)) none (some (j : Int)) none = some (.c (slC stC false (l.take j))) := sl_uptoE stC 1 (fun _ => rfl) Tryz.underlying22 sz9 hj
theorem upP {ex : Bool} {l : List Prd} {j : Nat} (hj : j < l.length) : aSlice Tryz.prog 23 (.c (slC prC ex l)) none (some (j : Int)) none = some (.c (slC prC false (l.take j))) := sl_uptoE prC 2 (fun _ => rfl) Tryz.underlying23 sz62 hj
theorem prinM_next {l : List ByteArray} {w : ByteArray} {k : Nat} (hk : k < l.length) : prinM (l.take (k + 1)) w = (prinM (l.take k) w || decide (l[k] = w)) := by
  unfold prinM
  rw [List.take_succ_eq_append_getElem hk, List.any_append]
  simp
theorem prinM_hit {l : List ByteArray} {w : ByteArray} {k : Nat} (hk : k < l.length) (h : l[k] = w) : prinM l w = true := prinM_iff.2 (h ▸ List.getElem_mem hk)
theorem arityF_skip {s : ByteArray} : ∀ {l : List Prd} {k : Nat}, (∀ (j : Nat) (hj : j < l.length), j < k → l[j].name ≠ s) → arityF l s = arityF (l.drop k) s
  | l, 0, _ => by rw [List.drop_zero]
  | [], k + 1, _ => rfl
  | x :: l, k + 1, h => by
    have h0 : x.name ≠ s := h 0 (by simp) (by omega)
    rw [List.drop_succ_cons, ← arityF_skip (l := l) (k := k) (fun j hj hjk => by have := h (j + 1) (by simpa using hj) (by omega); simpa using this)]
    show (if x.name = s then _ else _) = _
    rw [if_neg h0]
theorem arityF_hit {l : List Prd} {s : ByteArray} {k : Nat} (hp : ∀ (j : Nat) (hj : j < l.length), j < k → l[j].name ≠ s) (hk : k < l.length) (h : l[k].name = s) : arityF l s = (l[k].ar, true) := by
  rw [arityF_skip hp, List.drop_eq_getElem_cons hk]
  show (if _ then _ else _) = _
  rw [if_pos h]
theorem arityF_none {l : List Prd} {s : ByteArray} (hp : ∀ (j : Nat) (hj : j < l.length), j < l.length → l[j].name ≠ s) : arityF l s = (0, false) := by
  rw [arityF_skip hp, List.drop_eq_nil_of_le (Nat.le_refl _)]
  rfl
theorem prin_does (l : List ByteArray) (ex : Bool) (c1 c2 c3 c4 c5 c6 : CV) (s : ByteArray) (hl : l.length ≤ 1000000) : Does Tryz.prog 51 [.agg [slC stC ex l, c1, c2, c3, c4, c5, c6], sA s] (fun m => (bA (prinM l s), m)) := by
  refine does_of' Tryz.func51 rfl (by kernel_rfl) rfl Tryz.ntmps51 rfl rfl fun Q hQ => ?_
  repeat (first | refine tr_seq_k fun _ _ => ?_ | (refine tr_region ?_; simp only [go_sem, reduceCtorEq, Nat.reduceEqDiff, Nat.reduceLT, ↓reduceIte]) | refine k_of (by assumption) ?_ | refine tr_block ?_)
  refine tr_loop_k (σ := Nat) (fun k => [(1, sA s), (2, .ptr 0 0), (5, iA k)]) (fun _ => ⟨[⟨false, [.c (slC stC ex l), .c c1, .c c2, .c c3, .c c4, .c c5, .c c6]⟩], []⟩) (fun k => k ≤ l.length ∧ prinM (l.take k) s = false) (fun k => l.length - k) 0 ⟨Nat.zero_le _, rfl⟩ ⟨rfl, rfl, rfl, trivial⟩ rfl ?_
  rintro k ⟨hk, hp⟩ K hK
  by_cases hkl : k < l.length
  · have e1 : decide ((k : Int) < (l.length : Nat)) = true := decide_eq_true (by omega)
    have ix := idxS12 (ex := ex) hkl
    have ws := wrap_succ (show k ≤ 1000000000 by omega)
    have hn := prinM_next (w := s) hkl
    have hh := prinM_hit (w := s) hkl
    generalize l[k] = x at *
    cases h1 : decide (x = s) with
    | true =>
      have hr := hh (of_decide_eq_true h1)
      repeat (first | refine tr_seq_k fun _ _ => ?_ | (refine tr_region ?_; simp only [go_sem, List.getElem?_toArray, reduceCtorEq, Nat.reduceEqDiff, Nat.reduceLT, ↓reduceIte, e1]) | refine k_of (by assumption) ?_)
      refine tr_cond rfl (fun ht => ?_) (fun hf => ?_)
      · repeat (first | refine tr_seq_k fun _ _ => ?_ | (refine tr_region ?_; simp only [go_sem, reduceCtorEq, Nat.reduceEqDiff, Nat.reduceLT, ↓reduceIte, ix, h1]) | refine k_of (by assumption) ?_ | refine tr_block ?_ | (refine tr_skip ?_; try simp only [ex_seq]))
        refine tr_cond rfl (fun ht => ?_) (fun hf => ?_)
        · repeat (first | refine tr_seq_k fun _ _ => ?_ | (refine tr_region ?_; simp only [go_sem, Nat.reduceEqDiff, Nat.reduceLT, ↓reduceIte]) | refine k_of (by assumption) ?_ | (refine tr_ret ?_; try simp only [ex_seq_ret, ex_block_ret]))
          refine (hQ _ _ [bA true] ?_ (fun m => ?_)).2 <;> simp only [go_sem, Nat.reduceEqDiff, ↓reduceIte, Tryz.f51, hr]
        · cases hf
      · cases hf
    | false =>
      repeat (first | refine tr_seq_k fun _ _ => ?_ | (refine tr_region ?_; simp only [go_sem, List.getElem?_toArray, reduceCtorEq, Nat.reduceEqDiff, Nat.reduceLT, ↓reduceIte, e1]) | refine k_of (by assumption) ?_)
      refine tr_cond rfl (fun ht => ?_) (fun hf => ?_)
      · repeat (first | refine tr_seq_k fun _ _ => ?_ | (refine tr_region ?_; simp only [go_sem, reduceCtorEq, Nat.reduceEqDiff, Nat.reduceLT, ↓reduceIte, ix, h1]) | refine k_of (by assumption) ?_ | refine tr_block ?_ | (refine tr_skip ?_; try simp only [ex_seq]))
        refine tr_cond rfl (fun ht => ?_) (fun hf => ?_)
        · cases ht
        · repeat (first | (refine tr_region ?_; simp only [go_sem, Nat.reduceEqDiff, Nat.reduceLT, ↓reduceIte, ws]) | refine k_of (by assumption) ?_ | (refine tr_skip ?_; try simp only [ex_seq, ex_block]))
          exact hK (k + 1) _ _ ⟨hkl, by rw [hn, hp, h1]; rfl⟩ ⟨⟨rfl, rfl, rfl, trivial⟩, Keep.refl _, rfl, rfl, Nat.le_refl _, Nat.le_refl _⟩ (by omega)
      · cases hf
  · have e1 : decide ((k : Int) < (l.length : Nat)) = false := decide_eq_false (by omega)
    have hr : prinM l s = false := by rw [List.take_of_length_le (by omega)] at hp; exact hp
    repeat (first | refine tr_seq_k fun _ _ => ?_ | (refine tr_region ?_; simp only [go_sem, List.getElem?_toArray, reduceCtorEq, Nat.reduceEqDiff, Nat.reduceLT, ↓reduceIte, e1]) | refine k_of (by assumption) ?_)
    refine tr_cond rfl (fun ht => ?_) (fun hf => ?_)
    · cases ht
    · repeat (first | refine tr_seq_k fun _ _ => ?_ | (refine tr_region ?_; simp only [go_sem, Nat.reduceEqDiff, Nat.reduceLT, ↓reduceIte]) | refine k_of (by assumption) ?_ | (refine tr_exit ?_; try simp only [ex_seq_exit, ex_block_exit, ex_seq, ↓reduceIte]) | (refine tr_ret ?_; try simp only [ex_seq_ret, ex_block_ret]))
      refine (hQ _ _ [bA false] ?_ (fun m => ?_)).2 <;> simp only [go_sem, Nat.reduceEqDiff, ↓reduceIte, Tryz.f51, hr]
theorem arity_does (l : List Prd) (ex : Bool) (c0 c2 c3 c4 c5 c6 : CV) (s : ByteArray) (hl : l.length ≤ 1000000) : Does Tryz.prog 73 [.agg [c0, slC prC ex l, c2, c3, c4, c5, c6], sA s] (fun m => (.tup [iA (arityF l s).1, bA (arityF l s).2], m)) := by
  refine does_of' Tryz.func73 rfl (by kernel_rfl) rfl Tryz.ntmps73 rfl rfl fun Q hQ => ?_
  repeat (first | refine tr_seq_k fun _ _ => ?_ | (refine tr_region ?_; simp only [go_sem, reduceCtorEq, Nat.reduceEqDiff, Nat.reduceLT, ↓reduceIte]) | refine k_of (by assumption) ?_ | refine tr_block ?_)
  refine tr_loop_k (σ := Nat) (fun k => [(1, sA s), (2, .ptr 0 0), (6, iA k)]) (fun _ => ⟨[⟨false, [.c c0, .c (slC prC ex l), .c c2, .c c3, .c c4, .c c5, .c c6]⟩], []⟩) (fun k => k ≤ l.length ∧ ∀ (j : Nat) (hj : j < l.length), j < k → l[j].name ≠ s) (fun k => l.length - k) 0 ⟨Nat.zero_le _, fun _ _ h => absurd h (Nat.not_lt_zero _)⟩ ⟨rfl, rfl, rfl, trivial⟩ rfl ?_
  rintro k ⟨hk, hp⟩ K hK
  by_cases hkl : k < l.length
  · have e1 : decide ((k : Int) < (l.length : Nat)) = true := decide_eq_true (by omega)
    have ix := idxP (ex := ex) hkl
    have ws := wrap_succ (show k ≤ 1000000000 by omega)
    have hn : l[k].name ≠ s → ∀ (j : Nat) (hj : j < l.length), j < k + 1 → l[j].name ≠ s := fun h j hj hjk => by
      by_cases e : j = k
      · subst e; exact h
      · exact hp j hj (by omega)
    have hh := arityF_hit (s := s) hp hkl
    generalize l[k] = x at *
    cases h1 : decide (x.name = s) with
    | true =>
      have hr := hh (of_decide_eq_true h1)
      repeat (first | refine tr_seq_k fun _ _ => ?_ | (refine tr_region ?_; simp only [go_sem, List.getElem?_toArray, reduceCtorEq, Nat.reduceEqDiff, Nat.reduceLT, ↓reduceIte, e1]) | refine k_of (by assumption) ?_)
      refine tr_cond rfl (fun ht => ?_) (fun hf => ?_)
      · repeat (first | refine tr_seq_k fun _ _ => ?_ | (refine tr_region ?_; simp only [go_sem, reduceCtorEq, Nat.reduceEqDiff, Nat.reduceLT, ↓reduceIte, ix, h1]) | refine k_of (by assumption) ?_ | refine tr_block ?_ | (refine tr_skip ?_; try simp only [ex_seq]))
        refine tr_cond rfl (fun ht => ?_) (fun hf => ?_)
        · repeat (first | refine tr_seq_k fun _ _ => ?_ | (refine tr_region ?_; simp only [go_sem, List.getElem?_toArray, reduceCtorEq, Nat.reduceEqDiff, Nat.reduceLT, ↓reduceIte, ix]) | refine k_of (by assumption) ?_ | (refine tr_ret ?_; try simp only [ex_seq_ret, ex_block_ret]))
          refine (hQ _ _ [iA x.ar, bA true] ?_ (fun m => ?_)).2 <;> simp only [go_sem, Nat.reduceEqDiff, ↓reduceIte, Tryz.f73, hr]
        · cases hf
      · cases hf
    | false =>
      repeat (first | refine tr_seq_k fun _ _ => ?_ | (refine tr_region ?_; simp only [go_sem, List.getElem?_toArray, reduceCtorEq, Nat.reduceEqDiff, Nat.reduceLT, ↓reduceIte, e1]) | refine k_of (by assumption) ?_)
      refine tr_cond rfl (fun ht => ?_) (fun hf => ?_)
      · repeat (first | refine tr_seq_k fun _ _ => ?_ | (refine tr_region ?_; simp only [go_sem, reduceCtorEq, Nat.reduceEqDiff, Nat.reduceLT, ↓reduceIte, ix, h1]) | refine k_of (by assumption) ?_ | refine tr_block ?_ | (refine tr_skip ?_; try simp only [ex_seq]))
        refine tr_cond rfl (fun ht => ?_) (fun hf => ?_)
        · cases ht
        · repeat (first | (refine tr_region ?_; simp only [go_sem, Nat.reduceEqDiff, Nat.reduceLT, ↓reduceIte, ws]) | refine k_of (by assumption) ?_ | (refine tr_skip ?_; try simp only [ex_seq, ex_block]))
          exact hK (k + 1) _ _ ⟨hkl, hn (of_decide_eq_false h1)⟩ ⟨⟨rfl, rfl, rfl, trivial⟩, Keep.refl _, rfl, rfl, Nat.le_refl _, Nat.le_refl _⟩ (by omega)
      · cases hf
  · have e1 : decide ((k : Int) < (l.length : Nat)) = false := decide_eq_false (by omega)
    have hr : arityF l s = (0, false) := arityF_none fun j hj _ => hp j hj (by omega)
    repeat (first | refine tr_seq_k fun _ _ => ?_ | (refine tr_region ?_; simp only [go_sem, List.getElem?_toArray, reduceCtorEq, Nat.reduceEqDiff, Nat.reduceLT, ↓reduceIte, e1]) | refine k_of (by assumption) ?_)
    refine tr_cond rfl (fun ht => ?_) (fun hf => ?_)
    · cases ht
    · repeat (first | refine tr_seq_k fun _ _ => ?_ | (refine tr_region ?_; simp only [go_sem, Nat.reduceEqDiff, Nat.reduceLT, ↓reduceIte]) | refine k_of (by assumption) ?_ | (refine tr_exit ?_; try simp only [ex_seq_exit, ex_block_exit, ex_seq, ↓reduceIte]) | (refine tr_ret ?_; try simp only [ex_seq_ret, ex_block_ret]))
      refine (hQ _ _ [iA 0, bA false] ?_ (fun m => ?_)).2 <;> simp only [go_sem, Nat.reduceEqDiff, ↓reduceIte, Tryz.f73, hr]
structure Pol12 (p : Pol) : Prop where
  prin : p.prin.length ≤ 1000000
  preds : p.preds.length ≤ 1000000
  clears : p.clears.length ≤ 1000000
  reads : ∀ c ∈ p.clears, c.reads.length ≤ 1000000
  rules : p.rules.length ≤ 1000000
  grants : p.grants.length ≤ 1000000
  rb : ∀ r ∈ p.rules, r.body.length ≤ 1000000
  gb : ∀ g ∈ p.grants, g.body.length ≤ 1000000
theorem atom12_does (p : Pol) (a : Atm) (hp : Pol12 p) : Does Tryz.prog 75 [poA p, atA a] (fun m => (iA (atom12 p a), m)) := by
  have c1 := check3_does a
  have c2 : Does Tryz.prog 51 [poA p, sA a.says] (fun m => (bA (prinM p.prin a.says), m)) := prin_does p.prin p.e1 _ _ _ _ _ _ a.says hp.prin
  have c3 : Does Tryz.prog 73 [poA p, sA a.pred] (fun m => (.tup [iA (arityF p.preds a.pred).1, bA (arityF p.preds a.pred).2], m)) := arity_does p.preds p.e2 _ _ _ _ _ _ a.pred hp.preds
  have e : atom12 p a = if pcheck3 a ≠ 0 then pcheck3 a else if prinM p.prin a.says = false then 6 else if (arityF p.preds a.pred).2 = false then 7 else if (arityF p.preds a.pred).1 ≠ a.n then 8 else 0 := rfl
  generalize atom12 p a = R at *
  generalize pcheck3 a = x1 at *
  generalize prinM p.prin a.says = x2 at *
  generalize (arityF p.preds a.pred).2 = x3 at *
  generalize (arityF p.preds a.pred).1 = x4 at *
  cases h1 : decide (x1 = 0) with
  | false =>
    have hr : R = x1 := by rw [e, if_pos (of_decide_eq_false h1)]
    refine does_of' Tryz.func75 rfl (by kernel_rfl) rfl Tryz.ntmps75 rfl rfl fun Q hQ => ?_
    repeat (first | refine tr_seq_k fun _ _ => ?_ | (refine tr_region ?_; simp only [go_sem, reduceCtorEq, Nat.reduceEqDiff, Nat.reduceLT, Nat.reduceLeDiff, Nat.reduceAdd, ↓reduceIte, h1]) | (refine call_of (c1) ?_ ?_; (first | rfl | simp only [go_sem, reduceCtorEq, Nat.reduceEqDiff, Nat.reduceLT, Nat.reduceLeDiff, Nat.reduceAdd, Nat.reduceMul, Nat.reduceSub, Nat.reduceBEq, ↓reduceIte, h1, shut_col]); simp only [go_sem]) | refine k_of (by assumption) ?_)
    refine tr_cond rfl (fun ht => ?_) (fun hf => ?_)
    · repeat (first | refine tr_seq_k fun _ _ => ?_ | (refine tr_region ?_; simp only [go_sem, reduceCtorEq, Nat.reduceEqDiff, Nat.reduceLT, ↓reduceIte]) | refine k_of (by assumption) ?_ | (refine tr_ret ?_; try simp only [ex_seq_ret]))
      refine (hQ _ _ [iA x1] ?_ (fun m => ?_)).2 <;> simp only [go_sem, reduceCtorEq, Nat.reduceEqDiff, ↓reduceIte, Tryz.f75, hr]
    · cases hf
  | true =>
    have h1' := of_decide_eq_true h1
    rw [if_neg (fun h => h h1')] at e
    cases x2 with
    | false =>
      have hr : R = 6 := by rw [e]; rfl
      refine does_of' Tryz.func75 rfl (by kernel_rfl) rfl Tryz.ntmps75 rfl rfl fun Q hQ => ?_
      repeat (first | refine tr_seq_k fun _ _ => ?_ | (refine tr_region ?_; simp only [go_sem, reduceCtorEq, Nat.reduceEqDiff, Nat.reduceLT, Nat.reduceLeDiff, Nat.reduceAdd, ↓reduceIte, h1]) | (refine call_of (c1) ?_ ?_; (first | rfl | simp only [go_sem, reduceCtorEq, Nat.reduceEqDiff, Nat.reduceLT, Nat.reduceLeDiff, Nat.reduceAdd, Nat.reduceMul, Nat.reduceSub, Nat.reduceBEq, ↓reduceIte, h1, shut_col]); simp only [go_sem]) | refine k_of (by assumption) ?_)
      refine tr_cond rfl (fun ht => ?_) (fun hf => ?_)
      · cases ht
      · repeat (first | refine tr_seq_k fun _ _ => ?_ | (refine tr_region ?_; simp only [go_sem, List.getElem?_toArray, reduceCtorEq, Nat.reduceEqDiff, Nat.reduceLT, Nat.reduceLeDiff, Nat.reduceAdd, ↓reduceIte]) | (refine call_of (c2) ?_ ?_; (first | rfl | simp only [go_sem, reduceCtorEq, Nat.reduceEqDiff, Nat.reduceLT, Nat.reduceLeDiff, Nat.reduceAdd, Nat.reduceMul, Nat.reduceSub, Nat.reduceBEq, ↓reduceIte, shut_col]); simp only [go_sem, reduceCtorEq, Nat.reduceEqDiff, Nat.reduceLT, ↓reduceIte]) | refine k_of (by assumption) ?_ | (refine tr_skip ?_; try simp only [ex_seq]))
        refine tr_cond rfl (fun ht => ?_) (fun hf => ?_)
        · repeat (first | refine tr_seq_k fun _ _ => ?_ | (refine tr_region ?_; simp only [go_sem, reduceCtorEq, Nat.reduceEqDiff, Nat.reduceLT, ↓reduceIte]) | refine k_of (by assumption) ?_ | (refine tr_ret ?_; try simp only [ex_seq_ret]))
          refine (hQ _ _ [iA 6] ?_ (fun m => ?_)).2 <;> simp only [go_sem, reduceCtorEq, Nat.reduceEqDiff, ↓reduceIte, Tryz.f75, hr]
        · cases hf
    | true =>
      cases x3 with
      | false =>
        have hr : R = 7 := by rw [e]; rfl
        refine does_of' Tryz.func75 rfl (by kernel_rfl) rfl Tryz.ntmps75 rfl rfl fun Q hQ => ?_
        repeat (first | refine tr_seq_k fun _ _ => ?_ | (refine tr_region ?_; simp only [go_sem, reduceCtorEq, Nat.reduceEqDiff, Nat.reduceLT, Nat.reduceLeDiff, Nat.reduceAdd, ↓reduceIte, h1]) | (refine call_of (c1) ?_ ?_; (first | rfl | simp only [go_sem, reduceCtorEq, Nat.reduceEqDiff, Nat.reduceLT, Nat.reduceLeDiff, Nat.reduceAdd, Nat.reduceMul, Nat.reduceSub, Nat.reduceBEq, ↓reduceIte, h1, shut_col]); simp only [go_sem]) | refine k_of (by assumption) ?_)
        refine tr_cond rfl (fun ht => ?_) (fun hf => ?_)
        · cases ht
        · repeat (first | refine tr_seq_k fun _ _ => ?_ | (refine tr_region ?_; simp only [go_sem, List.getElem?_toArray, reduceCtorEq, Nat.reduceEqDiff, Nat.reduceLT, Nat.reduceLeDiff, Nat.reduceAdd, ↓reduceIte]) | (refine call_of (c2) ?_ ?_; (first | rfl | simp only [go_sem, reduceCtorEq, Nat.reduceEqDiff, Nat.reduceLT, Nat.reduceLeDiff, Nat.reduceAdd, Nat.reduceMul, Nat.reduceSub, Nat.reduceBEq, ↓reduceIte, shut_col]); simp only [go_sem, reduceCtorEq, Nat.reduceEqDiff, Nat.reduceLT, ↓reduceIte]) | refine k_of (by assumption) ?_ | (refine tr_skip ?_; try simp only [ex_seq]))
          refine tr_cond rfl (fun ht => ?_) (fun hf => ?_)
          · cases ht
          · repeat (first | refine tr_seq_k fun _ _ => ?_ | (refine tr_region ?_; simp only [go_sem, List.getElem?_toArray, reduceCtorEq, Nat.reduceEqDiff, Nat.reduceLT, Nat.reduceLeDiff, Nat.reduceAdd, ↓reduceIte]) | (refine call_of (c3) ?_ ?_; (first | rfl | simp only [go_sem, reduceCtorEq, Nat.reduceEqDiff, Nat.reduceLT, Nat.reduceLeDiff, Nat.reduceAdd, Nat.reduceMul, Nat.reduceSub, Nat.reduceBEq, ↓reduceIte, shut_col]); simp only [go_sem, reduceCtorEq, Nat.reduceEqDiff, Nat.reduceLT, ↓reduceIte]) | refine k_of (by assumption) ?_ | refine tr_block ?_ | (refine tr_skip ?_; try simp only [ex_seq]))
            refine tr_cond rfl (fun ht => ?_) (fun hf => ?_)
            · repeat (first | refine tr_seq_k fun _ _ => ?_ | (refine tr_region ?_; simp only [go_sem, reduceCtorEq, Nat.reduceEqDiff, Nat.reduceLT, ↓reduceIte]) | refine k_of (by assumption) ?_ | (refine tr_ret ?_; try simp only [ex_seq_ret, ex_block_ret]))
              refine (hQ _ _ [iA 7] ?_ (fun m => ?_)).2 <;> simp only [go_sem, reduceCtorEq, Nat.reduceEqDiff, ↓reduceIte, Tryz.f75, hr]
            · cases hf
      | true =>
        cases h4 : decide (x4 = a.n) with
        | false =>
          have hr : R = 8 := by rw [e, if_neg (by decide), if_neg (by decide), if_pos (of_decide_eq_false h4)]
          refine does_of' Tryz.func75 rfl (by kernel_rfl) rfl Tryz.ntmps75 rfl rfl fun Q hQ => ?_
          repeat (first | refine tr_seq_k fun _ _ => ?_ | (refine tr_region ?_; simp only [go_sem, reduceCtorEq, Nat.reduceEqDiff, Nat.reduceLT, Nat.reduceLeDiff, Nat.reduceAdd, ↓reduceIte, h1]) | (refine call_of (c1) ?_ ?_; (first | rfl | simp only [go_sem, reduceCtorEq, Nat.reduceEqDiff, Nat.reduceLT, Nat.reduceLeDiff, Nat.reduceAdd, Nat.reduceMul, Nat.reduceSub, Nat.reduceBEq, ↓reduceIte, h1, shut_col]); simp only [go_sem]) | refine k_of (by assumption) ?_)
          refine tr_cond rfl (fun ht => ?_) (fun hf => ?_)
          · cases ht
          · repeat (first | refine tr_seq_k fun _ _ => ?_ | (refine tr_region ?_; simp only [go_sem, List.getElem?_toArray, reduceCtorEq, Nat.reduceEqDiff, Nat.reduceLT, Nat.reduceLeDiff, Nat.reduceAdd, ↓reduceIte]) | (refine call_of (c2) ?_ ?_; (first | rfl | simp only [go_sem, reduceCtorEq, Nat.reduceEqDiff, Nat.reduceLT, Nat.reduceLeDiff, Nat.reduceAdd, Nat.reduceMul, Nat.reduceSub, Nat.reduceBEq, ↓reduceIte, shut_col]); simp only [go_sem, reduceCtorEq, Nat.reduceEqDiff, Nat.reduceLT, ↓reduceIte]) | refine k_of (by assumption) ?_ | (refine tr_skip ?_; try simp only [ex_seq]))
            refine tr_cond rfl (fun ht => ?_) (fun hf => ?_)
            · cases ht
            · repeat (first | refine tr_seq_k fun _ _ => ?_ | (refine tr_region ?_; simp only [go_sem, List.getElem?_toArray, reduceCtorEq, Nat.reduceEqDiff, Nat.reduceLT, Nat.reduceLeDiff, Nat.reduceAdd, ↓reduceIte]) | (refine call_of (c3) ?_ ?_; (first | rfl | simp only [go_sem, reduceCtorEq, Nat.reduceEqDiff, Nat.reduceLT, Nat.reduceLeDiff, Nat.reduceAdd, Nat.reduceMul, Nat.reduceSub, Nat.reduceBEq, ↓reduceIte, shut_col]); simp only [go_sem, reduceCtorEq, Nat.reduceEqDiff, Nat.reduceLT, ↓reduceIte]) | refine k_of (by assumption) ?_ | refine tr_block ?_ | (refine tr_skip ?_; try simp only [ex_seq]))
              refine tr_cond rfl (fun ht => ?_) (fun hf => ?_)
              · cases ht
              · repeat (first | refine tr_seq_k fun _ _ => ?_ | (refine tr_region ?_; simp only [go_sem, List.getElem?_toArray, reduceCtorEq, Nat.reduceEqDiff, Nat.reduceLT, ↓reduceIte, h4]) | refine k_of (by assumption) ?_)
                refine tr_cond rfl (fun ht => ?_) (fun hf => ?_)
                · repeat (first | refine tr_seq_k fun _ _ => ?_ | (refine tr_region ?_; simp only [go_sem, reduceCtorEq, Nat.reduceEqDiff, Nat.reduceLT, ↓reduceIte]) | refine k_of (by assumption) ?_ | (refine tr_ret ?_; try simp only [ex_seq_ret, ex_block_ret]))
                  refine (hQ _ _ [iA 8] ?_ (fun m => ?_)).2 <;> simp only [go_sem, reduceCtorEq, Nat.reduceEqDiff, ↓reduceIte, Tryz.f75, hr]
                · cases hf
        | true =>
          have hr : R = 0 := by rw [e, if_neg (by decide), if_neg (by decide), if_neg (fun h => h (of_decide_eq_true h4))]
          refine does_of' Tryz.func75 rfl (by kernel_rfl) rfl Tryz.ntmps75 rfl rfl fun Q hQ => ?_
          repeat (first | refine tr_seq_k fun _ _ => ?_ | (refine tr_region ?_; simp only [go_sem, reduceCtorEq, Nat.reduceEqDiff, Nat.reduceLT, Nat.reduceLeDiff, Nat.reduceAdd, ↓reduceIte, h1]) | (refine call_of (c1) ?_ ?_; (first | rfl | simp only [go_sem, reduceCtorEq, Nat.reduceEqDiff, Nat.reduceLT, Nat.reduceLeDiff, Nat.reduceAdd, Nat.reduceMul, Nat.reduceSub, Nat.reduceBEq, ↓reduceIte, h1, shut_col]); simp only [go_sem]) | refine k_of (by assumption) ?_)
          refine tr_cond rfl (fun ht => ?_) (fun hf => ?_)
          · cases ht
          · repeat (first | refine tr_seq_k fun _ _ => ?_ | (refine tr_region ?_; simp only [go_sem, List.getElem?_toArray, reduceCtorEq, Nat.reduceEqDiff, Nat.reduceLT, Nat.reduceLeDiff, Nat.reduceAdd, ↓reduceIte]) | (refine call_of (c2) ?_ ?_; (first | rfl | simp only [go_sem, reduceCtorEq, Nat.reduceEqDiff, Nat.reduceLT, Nat.reduceLeDiff, Nat.reduceAdd, Nat.reduceMul, Nat.reduceSub, Nat.reduceBEq, ↓reduceIte, shut_col]); simp only [go_sem, reduceCtorEq, Nat.reduceEqDiff, Nat.reduceLT, ↓reduceIte]) | refine k_of (by assumption) ?_ | (refine tr_skip ?_; try simp only [ex_seq]))
            refine tr_cond rfl (fun ht => ?_) (fun hf => ?_)
            · cases ht
            · repeat (first | refine tr_seq_k fun _ _ => ?_ | (refine tr_region ?_; simp only [go_sem, List.getElem?_toArray, reduceCtorEq, Nat.reduceEqDiff, Nat.reduceLT, Nat.reduceLeDiff, Nat.reduceAdd, ↓reduceIte]) | (refine call_of (c3) ?_ ?_; (first | rfl | simp only [go_sem, reduceCtorEq, Nat.reduceEqDiff, Nat.reduceLT, Nat.reduceLeDiff, Nat.reduceAdd, Nat.reduceMul, Nat.reduceSub, Nat.reduceBEq, ↓reduceIte, shut_col]); simp only [go_sem, reduceCtorEq, Nat.reduceEqDiff, Nat.reduceLT, ↓reduceIte]) | refine k_of (by assumption) ?_ | refine tr_block ?_ | (refine tr_skip ?_; try simp only [ex_seq]))
              refine tr_cond rfl (fun ht => ?_) (fun hf => ?_)
              · cases ht
              · repeat (first | refine tr_seq_k fun _ _ => ?_ | (refine tr_region ?_; simp only [go_sem, List.getElem?_toArray, reduceCtorEq, Nat.reduceEqDiff, Nat.reduceLT, ↓reduceIte, h4]) | refine k_of (by assumption) ?_)
                refine tr_cond rfl (fun ht => ?_) (fun hf => ?_)
                · cases ht
                · repeat (first | refine tr_seq_k fun _ _ => ?_ | (refine tr_region ?_; simp only [go_sem, reduceCtorEq, Nat.reduceEqDiff, Nat.reduceLT, ↓reduceIte]) | refine k_of (by assumption) ?_ | (refine tr_skip ?_; try simp only [ex_seq, ex_block]) | (refine tr_ret ?_; try simp only [ex_seq_ret, ex_block_ret]))
                  refine (hQ _ _ [iA 0] ?_ (fun m => ?_)).2 <;> simp only [go_sem, reduceCtorEq, Nat.reduceEqDiff, ↓reduceIte, Tryz.f75, hr]
end Go.Proofs.YtinbfakpjnnagaaGreatDoor
namespace Go.Proofs.YtinbfakpjnnagaaGreatDoor
open Go.Vs Go.Vs.Ab
set_option maxRecDepth 100000
set_option maxHeartbeats 4000000
theorem zero_next {f : Nat → Int} {k : Nat} (h : ∀ j, j < k → f j = 0) (he : f k = 0) : ∀ j, j < k + 1 → f j = 0 := fun j hj => by
  by_cases e : j = k
  · subst e; exact he
  · exact h j (by omega)
theorem prins_does (l : List ByteArray) (ex : Bool) (c1 c2 c3 c4 c5 c6 : CV) (hl : l.length ≤ 1000000) : Does Tryz.prog 46 [.agg [slC stC ex l, c1, c2, c3, c4, c5, c6]] (fun m => (iA (prin12 l), m)) := by
  have e : prin12 l = if (l.length : Int) < 1 ∨ (l.length : Int) > 16 then 4 else firstE (prinE l) l.length := rfl
  generalize prin12 l = R at *
  cases d1 : decide ((l.length : Int) < 1) with
  | true =>
    have hr : R = 4 := by rw [e, if_pos (Or.inl (of_decide_eq_true d1))]
    refine does_of' Tryz.func46 rfl (by kernel_rfl) rfl Tryz.ntmps46 rfl rfl fun Q hQ => ?_
    repeat (first | refine tr_seq_k fun _ _ => ?_ | (refine tr_region ?_; simp only [go_sem, List.getElem?_toArray, reduceCtorEq, Nat.reduceEqDiff, Nat.reduceLT, ↓reduceIte, d1]) | refine k_of (by assumption) ?_)
    refine tr_cond rfl (fun ht => ?_) (fun hf => ?_)
    · repeat (first | refine tr_seq_k fun _ _ => ?_ | (refine tr_region ?_; simp only [go_sem, reduceCtorEq, Nat.reduceEqDiff, Nat.reduceLT, ↓reduceIte]) | refine k_of (by assumption) ?_ | (refine tr_ret ?_; try simp only [ex_seq_ret]))
      refine (hQ _ _ [iA 4] ?_ (fun m => ?_)).2 <;> simp only [go_sem, reduceCtorEq, Nat.reduceEqDiff, ↓reduceIte, Tryz.f46, hr]
    · cases hf
  | false =>
    cases d2 : decide ((l.length : Int) > 16) with
    | true =>
      have hr : R = 4 := by rw [e, if_pos (Or.inr (of_decide_eq_true d2))]
      refine does_of' Tryz.func46 rfl (by kernel_rfl) rfl Tryz.ntmps46 rfl rfl fun Q hQ => ?_
      repeat (first | refine tr_seq_k fun _ _ => ?_ | (refine tr_region ?_; simp only [go_sem, List.getElem?_toArray, reduceCtorEq, Nat.reduceEqDiff, Nat.reduceLT, ↓reduceIte, d1, d2]) | refine k_of (by assumption) ?_)
      refine tr_cond rfl (fun ht => ?_) (fun hf => ?_)
      · repeat (first | refine tr_seq_k fun _ _ => ?_ | (refine tr_region ?_; simp only [go_sem, reduceCtorEq, Nat.reduceEqDiff, Nat.reduceLT, ↓reduceIte]) | refine k_of (by assumption) ?_ | (refine tr_ret ?_; try simp only [ex_seq_ret]))
        refine (hQ _ _ [iA 4] ?_ (fun m => ?_)).2 <;> simp only [go_sem, reduceCtorEq, Nat.reduceEqDiff, ↓reduceIte, Tryz.f46, hr]
      · cases hf
    | false =>
      rw [if_neg (fun h => h.elim (of_decide_eq_false d1) (of_decide_eq_false d2))] at e
      refine does_of' Tryz.func46 rfl (by kernel_rfl) rfl Tryz.ntmps46 rfl rfl fun Q hQ => ?_
      repeat (first | refine tr_seq_k fun _ _ => ?_ | (refine tr_region ?_; simp only [go_sem, List.getElem?_toArray, reduceCtorEq, Nat.reduceEqDiff, Nat.reduceLT, ↓reduceIte, d1, d2]) | refine k_of (by assumption) ?_)
      refine tr_cond rfl (fun ht => ?_) (fun hf => ?_)
      · cases ht
      · repeat (first | refine tr_seq_k fun _ _ => ?_ | (refine tr_region ?_; simp only [go_sem, reduceCtorEq, Nat.reduceEqDiff, Nat.reduceLT, ↓reduceIte]) | refine k_of (by assumption) ?_ | refine tr_block ?_ | (refine tr_skip ?_; try simp only [ex_seq]))
        refine tr_loop_k (σ := Nat) (fun k => [(1, .ptr 0 0), (3, iA k)]) (fun _ => ⟨[⟨false, [.c (slC stC ex l), .c c1, .c c2, .c c3, .c c4, .c c5, .c c6]⟩], []⟩) (fun k => k ≤ l.length ∧ ∀ j, j < k → prinE l j = 0) (fun k => l.length - k) 0 ⟨Nat.zero_le _, fun _ h => absurd h (Nat.not_lt_zero _)⟩ ⟨rfl, rfl, trivial⟩ rfl ?_
        rintro k ⟨hk, hp⟩ K hK
        by_cases hkl : k < l.length
        · have e1 : decide ((k : Int) < (l.length : Nat)) = true := decide_eq_true (by omega)
          have ix := idxS12 (ex := ex) hkl
          have ws := wrap_succ (show k ≤ 1000000000 by omega)
          have up := upS (ex := ex) hkl
          have hh := firstE_hit (f := prinE l) hp hkl
          have hn := zero_next (f := prinE l) hp
          have hE : prinE l k = if pprincipal l[k] = false then 3 else if prinM (l.take k) l[k] = true then 5 else 0 := by unfold prinE bAt; rw [at_get hkl]
          have cM := prin_does (l.take k) false (.sl true 0 []) (.sl true 0 []) (.v (.int .i64 0)) (.v (.int .i64 0)) (.sl true 0 []) (.sl true 0 []) l[k] (by rw [List.length_take]; omega)
          have cP := principal_does l[k]
          generalize l[k] = x at *
          cases h1 : pprincipal x with
          | false =>
            rw [h1] at cP
            have hE3 : prinE l k = 3 := by rw [hE, h1]; rfl
            have hr : R = 3 := by rw [e, hh (by rw [hE3]; decide), hE3]
            repeat (first | refine tr_seq_k fun _ _ => ?_ | (refine tr_region ?_; simp only [go_sem, List.getElem?_toArray, reduceCtorEq, Nat.reduceEqDiff, Nat.reduceLT, ↓reduceIte, e1]) | refine k_of (by assumption) ?_)
            refine tr_cond rfl (fun ht => ?_) (fun hf => ?_)
            · repeat (first | refine tr_seq_k fun _ _ => ?_ | (refine tr_region ?_; simp only [go_sem, List.getElem?_toArray, reduceCtorEq, Nat.reduceEqDiff, Nat.reduceLT, ↓reduceIte, ix]) | (refine call_of (cP) ?_ ?_; (first | rfl | simp only [go_sem, reduceCtorEq, Nat.reduceEqDiff, Nat.reduceLT, Nat.reduceLeDiff, Nat.reduceAdd, Nat.reduceMul, Nat.reduceSub, Nat.reduceBEq, ↓reduceIte, ix, shut_col]); simp only [go_sem, Nat.reduceEqDiff, Nat.reduceLT, ↓reduceIte]) | refine k_of (by assumption) ?_ | refine tr_block ?_ | (refine tr_skip ?_; try simp only [ex_seq]))
              refine tr_cond rfl (fun ht => ?_) (fun hf => ?_)
              · repeat (first | refine tr_seq_k fun _ _ => ?_ | (refine tr_region ?_; simp only [go_sem, Nat.reduceEqDiff, Nat.reduceLT, ↓reduceIte]) | refine k_of (by assumption) ?_ | (refine tr_ret ?_; try simp only [ex_seq_ret, ex_block_ret]))
                refine (hQ _ _ [iA 3] ?_ (fun m => ?_)).2 <;> simp only [go_sem, Nat.reduceEqDiff, ↓reduceIte, Tryz.f46, hr]
              · cases hf
            · cases hf
          | true =>
            rw [h1] at cP
            cases h2 : prinM (l.take k) x with
            | true =>
              rw [h2] at cM
              have hE5 : prinE l k = 5 := by rw [hE, h1, h2]; rfl
              have hr : R = 5 := by rw [e, hh (by rw [hE5]; decide), hE5]
              repeat (first | refine tr_seq_k fun _ _ => ?_ | (refine tr_region ?_; simp only [go_sem, List.getElem?_toArray, reduceCtorEq, Nat.reduceEqDiff, Nat.reduceLT, ↓reduceIte, e1]) | refine k_of (by assumption) ?_)
              refine tr_cond rfl (fun ht => ?_) (fun hf => ?_)
              · repeat (first | refine tr_seq_k fun _ _ => ?_ | (refine tr_region ?_; simp only [go_sem, List.getElem?_toArray, reduceCtorEq, Nat.reduceEqDiff, Nat.reduceLT, ↓reduceIte, ix]) | (refine call_of (cP) ?_ ?_; (first | rfl | simp only [go_sem, reduceCtorEq, Nat.reduceEqDiff, Nat.reduceLT, Nat.reduceLeDiff, Nat.reduceAdd, Nat.reduceMul, Nat.reduceSub, Nat.reduceBEq, ↓reduceIte, ix, shut_col]); simp only [go_sem, Nat.reduceEqDiff, Nat.reduceLT, ↓reduceIte]) | refine k_of (by assumption) ?_ | refine tr_block ?_ | (refine tr_skip ?_; try simp only [ex_seq]))
                refine tr_cond rfl (fun ht => ?_) (fun hf => ?_)
                · cases ht
                · repeat (first | refine tr_seq_k fun _ _ => ?_ | (refine tr_draw (id := 8) follows 10000 [10] [0, 1, 2, 3, 4, 5, 6, 7, 8, 9, 10] (by kernel_rfl) ?_; simp only [go_sem, List.getElem?_toArray, reduceCtorEq, Nat.reduceEqDiff, Nat.reduceLT, Nat.reduceLeDiff, Nat.reduceAdd, ↓reduceIte, ix, up]) | (refine call_of (cM) ?_ ?_; (first | rfl | simp only [go_sem, reduceCtorEq, Nat.reduceEqDiff, Nat.reduceLT, Nat.reduceLeDiff, Nat.reduceAdd, Nat.reduceMul, Nat.reduceSub, Nat.reduceBEq, ↓reduceIte, ix, up, shut_col]); simp only [go_sem, Bool.true_or]) | refine k_of (by assumption) ?_ | (refine tr_skip ?_; try simp only [ex_seq]))
                  refine tr_cond rfl (fun ht => ?_) (fun hf => ?_)
                  · repeat (first | refine tr_seq_k fun _ _ => ?_ | (refine tr_region ?_; simp only [go_sem, Nat.reduceEqDiff, Nat.reduceLT, ↓reduceIte]) | refine k_of (by assumption) ?_ | (refine tr_ret ?_; try simp only [ex_seq_ret, ex_block_ret]))
                    refine (hQ _ _ [iA 5] ?_ (fun m => ?_)).2 <;> simp only [go_sem, Nat.reduceEqDiff, ↓reduceIte, Tryz.f46, hr]
                  · cases hf
              · cases hf
            | false =>
              rw [h2] at cM
              have hE0 : prinE l k = 0 := by rw [hE, h1, h2]; rfl
              repeat (first | refine tr_seq_k fun _ _ => ?_ | (refine tr_region ?_; simp only [go_sem, List.getElem?_toArray, reduceCtorEq, Nat.reduceEqDiff, Nat.reduceLT, ↓reduceIte, e1]) | refine k_of (by assumption) ?_)
              refine tr_cond rfl (fun ht => ?_) (fun hf => ?_)
              · repeat (first | refine tr_seq_k fun _ _ => ?_ | (refine tr_region ?_; simp only [go_sem, List.getElem?_toArray, reduceCtorEq, Nat.reduceEqDiff, Nat.reduceLT, ↓reduceIte, ix]) | (refine call_of (cP) ?_ ?_; (first | rfl | simp only [go_sem, reduceCtorEq, Nat.reduceEqDiff, Nat.reduceLT, Nat.reduceLeDiff, Nat.reduceAdd, Nat.reduceMul, Nat.reduceSub, Nat.reduceBEq, ↓reduceIte, ix, shut_col]); simp only [go_sem, Nat.reduceEqDiff, Nat.reduceLT, ↓reduceIte]) | refine k_of (by assumption) ?_ | refine tr_block ?_ | (refine tr_skip ?_; try simp only [ex_seq]))
                refine tr_cond rfl (fun ht => ?_) (fun hf => ?_)
                · cases ht
                · repeat (first | refine tr_seq_k fun _ _ => ?_ | (refine tr_draw (id := 8) follows 10000 [10] [0, 1, 2, 3, 4, 5, 6, 7, 8, 9, 10] (by kernel_rfl) ?_; simp only [go_sem, List.getElem?_toArray, reduceCtorEq, Nat.reduceEqDiff, Nat.reduceLT, Nat.reduceLeDiff, Nat.reduceAdd, ↓reduceIte, ix, up]) | (refine call_of (cM) ?_ ?_; (first | rfl | simp only [go_sem, reduceCtorEq, Nat.reduceEqDiff, Nat.reduceLT, Nat.reduceLeDiff, Nat.reduceAdd, Nat.reduceMul, Nat.reduceSub, Nat.reduceBEq, ↓reduceIte, ix, up, shut_col]); simp only [go_sem, Bool.true_or]) | refine k_of (by assumption) ?_ | (refine tr_skip ?_; try simp only [ex_seq]))
                  refine tr_cond rfl (fun ht => ?_) (fun hf => ?_)
                  · cases ht
                  · repeat (first | (refine tr_region ?_; simp only [go_sem, Nat.reduceEqDiff, Nat.reduceLT, ↓reduceIte, ws]) | refine k_of (by assumption) ?_ | (refine tr_skip ?_; try simp only [ex_seq, ex_block]))
                    exact hK (k + 1) _ _ ⟨hkl, hn hE0⟩ ⟨⟨rfl, rfl, trivial⟩, Keep.refl _, rfl, rfl, Nat.le_refl _, Nat.le_refl _⟩ (by omega)
              · cases hf
        · have e1 : decide ((k : Int) < (l.length : Nat)) = false := decide_eq_false (by omega)
          have hr : R = 0 := by rw [e, firstE_none fun j hj => hp j (by omega)]
          repeat (first | refine tr_seq_k fun _ _ => ?_ | (refine tr_region ?_; simp only [go_sem, List.getElem?_toArray, reduceCtorEq, Nat.reduceEqDiff, Nat.reduceLT, ↓reduceIte, e1]) | refine k_of (by assumption) ?_)
          refine tr_cond rfl (fun ht => ?_) (fun hf => ?_)
          · cases ht
          · repeat (first | refine tr_seq_k fun _ _ => ?_ | (refine tr_region ?_; simp only [go_sem, Nat.reduceEqDiff, Nat.reduceLT, ↓reduceIte]) | refine k_of (by assumption) ?_ | (refine tr_exit ?_; try simp only [ex_seq_exit, ex_block_exit, ex_seq, ↓reduceIte]) | (refine tr_ret ?_; try simp only [ex_seq_ret, ex_block_ret]))
            refine (hQ _ _ [iA 0] ?_ (fun m => ?_)).2 <;> simp only [go_sem, Nat.reduceEqDiff, ↓reduceIte, Tryz.f46, hr]
theorem preds_does (l : List Prd) (ex : Bool) (c0 c2 c3 c4 c5 c6 : CV) (hl : l.length ≤ 1000000) : Does Tryz.prog 47 [.agg [c0, slC prC ex l, c2, c3, c4, c5, c6]] (fun m => (iA (pred12 l), m)) := by
  have e : pred12 l = if (l.length : Int) > 32 then 4 else firstE (predE l) l.length := rfl
  generalize pred12 l = R at *
  cases d2 : decide ((l.length : Int) > 32) with
  | true =>
    have hr : R = 4 := by rw [e, if_pos (of_decide_eq_true d2)]
    refine does_of' Tryz.func47 rfl (by kernel_rfl) rfl Tryz.ntmps47 rfl rfl fun Q hQ => ?_
    repeat (first | refine tr_seq_k fun _ _ => ?_ | (refine tr_region ?_; simp only [go_sem, List.getElem?_toArray, reduceCtorEq, Nat.reduceEqDiff, Nat.reduceLT, ↓reduceIte, d2]) | refine k_of (by assumption) ?_)
    refine tr_cond rfl (fun ht => ?_) (fun hf => ?_)
    · repeat (first | refine tr_seq_k fun _ _ => ?_ | (refine tr_region ?_; simp only [go_sem, reduceCtorEq, Nat.reduceEqDiff, Nat.reduceLT, ↓reduceIte]) | refine k_of (by assumption) ?_ | (refine tr_ret ?_; try simp only [ex_seq_ret]))
      refine (hQ _ _ [iA 4] ?_ (fun m => ?_)).2 <;> simp only [go_sem, reduceCtorEq, Nat.reduceEqDiff, ↓reduceIte, Tryz.f47, hr]
    · cases hf
  | false =>
    rw [if_neg (of_decide_eq_false d2)] at e
    refine does_of' Tryz.func47 rfl (by kernel_rfl) rfl Tryz.ntmps47 rfl rfl fun Q hQ => ?_
    repeat (first | refine tr_seq_k fun _ _ => ?_ | (refine tr_region ?_; simp only [go_sem, List.getElem?_toArray, reduceCtorEq, Nat.reduceEqDiff, Nat.reduceLT, ↓reduceIte, d2]) | refine k_of (by assumption) ?_)
    refine tr_cond rfl (fun ht => ?_) (fun hf => ?_)
    · cases ht
    · repeat (first | refine tr_seq_k fun _ _ => ?_ | (refine tr_region ?_; simp only [go_sem, reduceCtorEq, Nat.reduceEqDiff, Nat.reduceLT, ↓reduceIte]) | refine k_of (by assumption) ?_ | refine tr_block ?_ | (refine tr_skip ?_; try simp only [ex_seq]))
      refine tr_loop_k (σ := Nat) (fun k => [(1, .ptr 0 0), (3, iA k)]) (fun _ => ⟨[⟨false, [.c c0, .c (slC prC ex l), .c c2, .c c3, .c c4, .c c5, .c c6]⟩], []⟩) (fun k => k ≤ l.length ∧ ∀ j, j < k → predE l j = 0) (fun k => l.length - k) 0 ⟨Nat.zero_le _, fun _ h => absurd h (Nat.not_lt_zero _)⟩ ⟨rfl, rfl, trivial⟩ rfl ?_
      rintro k ⟨hk, hp⟩ K hK
      by_cases hkl : k < l.length
      · have e1 : decide ((k : Int) < (l.length : Nat)) = true := decide_eq_true (by omega)
        have ix := idxP (ex := ex) hkl
        have ws := wrap_succ (show k ≤ 1000000000 by omega)
        have up := upP (ex := ex) hkl
        have hh := firstE_hit (f := predE l) hp hkl
        have hn := zero_next (f := predE l) hp
        have hE : predE l k = if pprincipal l[k].name = false then 3 else if (arityF (l.take k) l[k].name).2 = true then 5 else if l[k].ar < 0 ∨ l[k].ar > 4 then 4 else 0 := by unfold predE pAt; rw [at_get hkl]
        have cM := arity_does (l.take k) false (.sl true 0 []) (.sl true 0 []) (.v (.int .i64 0)) (.v (.int .i64 0)) (.sl true 0 []) (.sl true 0 []) l[k].name (by rw [List.length_take]; omega)
        have cP := predicate_does l[k].name
        generalize l[k] = x at *
        generalize (arityF (l.take k) x.name).1 = ar1 at *
        cases h1 : pprincipal x.name with
        | false =>
          rw [h1] at cP
          have hE3 : predE l k = 3 := by rw [hE, h1]; rfl
          have hr : R = 3 := by rw [e, hh (by rw [hE3]; decide), hE3]
          repeat (first | refine tr_seq_k fun _ _ => ?_ | (refine tr_region ?_; simp only [go_sem, List.getElem?_toArray, reduceCtorEq, Nat.reduceEqDiff, Nat.reduceLT, ↓reduceIte, e1]) | refine k_of (by assumption) ?_)
          refine tr_cond rfl (fun ht => ?_) (fun hf => ?_)
          · repeat (first | refine tr_seq_k fun _ _ => ?_ | (refine tr_region ?_; simp only [go_sem, List.getElem?_toArray, reduceCtorEq, Nat.reduceEqDiff, Nat.reduceLT, Nat.reduceLeDiff, Nat.reduceAdd, ↓reduceIte, ix]) | (refine call_of (cP) ?_ ?_; (first | rfl | simp only [go_sem, reduceCtorEq, Nat.reduceEqDiff, Nat.reduceLT, Nat.reduceLeDiff, Nat.reduceAdd, Nat.reduceMul, Nat.reduceSub, Nat.reduceBEq, ↓reduceIte, ix, shut_col]); simp only [go_sem, Nat.reduceEqDiff, Nat.reduceLT, ↓reduceIte]) | refine k_of (by assumption) ?_ | refine tr_block ?_ | (refine tr_skip ?_; try simp only [ex_seq]))
            refine tr_cond rfl (fun ht => ?_) (fun hf => ?_)
            · repeat (first | refine tr_seq_k fun _ _ => ?_ | (refine tr_region ?_; simp only [go_sem, Nat.reduceEqDiff, Nat.reduceLT, ↓reduceIte]) | refine k_of (by assumption) ?_ | (refine tr_ret ?_; try simp only [ex_seq_ret, ex_block_ret]))
              refine (hQ _ _ [iA 3] ?_ (fun m => ?_)).2 <;> simp only [go_sem, Nat.reduceEqDiff, ↓reduceIte, Tryz.f47, hr]
            · cases hf
          · cases hf
        | true =>
          rw [h1] at cP
          cases h2 : (arityF (l.take k) x.name).2 with
          | true =>
            rw [h2] at cM
            have hE5 : predE l k = 5 := by rw [hE, h1, h2]; rfl
            have hr : R = 5 := by rw [e, hh (by rw [hE5]; decide), hE5]
            repeat (first | refine tr_seq_k fun _ _ => ?_ | (refine tr_region ?_; simp only [go_sem, List.getElem?_toArray, reduceCtorEq, Nat.reduceEqDiff, Nat.reduceLT, ↓reduceIte, e1]) | refine k_of (by assumption) ?_)
            refine tr_cond rfl (fun ht => ?_) (fun hf => ?_)
            · repeat (first | refine tr_seq_k fun _ _ => ?_ | (refine tr_region ?_; simp only [go_sem, List.getElem?_toArray, reduceCtorEq, Nat.reduceEqDiff, Nat.reduceLT, Nat.reduceLeDiff, Nat.reduceAdd, ↓reduceIte, ix]) | (refine call_of (cP) ?_ ?_; (first | rfl | simp only [go_sem, reduceCtorEq, Nat.reduceEqDiff, Nat.reduceLT, Nat.reduceLeDiff, Nat.reduceAdd, Nat.reduceMul, Nat.reduceSub, Nat.reduceBEq, ↓reduceIte, ix, shut_col]); simp only [go_sem, Nat.reduceEqDiff, Nat.reduceLT, ↓reduceIte]) | refine k_of (by assumption) ?_ | refine tr_block ?_ | (refine tr_skip ?_; try simp only [ex_seq]))
              refine tr_cond rfl (fun ht => ?_) (fun hf => ?_)
              · cases ht
              · repeat (first | refine tr_seq_k fun _ _ => ?_ | (refine tr_region ?_; simp only [go_sem, Nat.reduceEqDiff, Nat.reduceLT, ↓reduceIte]) | (refine tr_draw (id := 9) follows 10000 [7] [0, 1, 2, 3, 4, 5, 6, 7, 8, 9, 10, 11, 12] (by kernel_rfl) ?_; simp only [go_sem, List.getElem?_toArray, reduceCtorEq, Nat.reduceEqDiff, Nat.reduceLT, Nat.reduceLeDiff, Nat.reduceAdd, ↓reduceIte, up]) | (refine call_of (cM) ?_ ?_; (first | rfl | simp only [go_sem, reduceCtorEq, Nat.reduceEqDiff, Nat.reduceLT, Nat.reduceLeDiff, Nat.reduceAdd, Nat.reduceMul, Nat.reduceSub, Nat.reduceBEq, ↓reduceIte, up, shut_col]); simp only [go_sem, Nat.reduceEqDiff, Nat.reduceLT, ↓reduceIte, Bool.true_or]) | refine k_of (by assumption) ?_ | (refine tr_skip ?_; try simp only [ex_seq]))
                refine tr_cond rfl (fun ht => ?_) (fun hf => ?_)
                · repeat (first | refine tr_seq_k fun _ _ => ?_ | (refine tr_region ?_; simp only [go_sem, Nat.reduceEqDiff, Nat.reduceLT, ↓reduceIte]) | refine k_of (by assumption) ?_ | (refine tr_ret ?_; try simp only [ex_seq_ret, ex_block_ret]))
                  refine (hQ _ _ [iA 5] ?_ (fun m => ?_)).2 <;> simp only [go_sem, Nat.reduceEqDiff, ↓reduceIte, Tryz.f47, hr]
                · cases hf
            · cases hf
          | false =>
            rw [h2] at cM
            cases d3 : decide (x.ar < 0) with
            | true =>
              have hE4 : predE l k = 4 := by rw [hE, h1, h2, if_neg (by decide), if_neg (by decide), if_pos (Or.inl (of_decide_eq_true d3))]
              have hr : R = 4 := by rw [e, hh (by rw [hE4]; decide), hE4]
              repeat (first | refine tr_seq_k fun _ _ => ?_ | (refine tr_region ?_; simp only [go_sem, List.getElem?_toArray, reduceCtorEq, Nat.reduceEqDiff, Nat.reduceLT, ↓reduceIte, e1]) | refine k_of (by assumption) ?_)
              refine tr_cond rfl (fun ht => ?_) (fun hf => ?_)
              · repeat (first | refine tr_seq_k fun _ _ => ?_ | (refine tr_region ?_; simp only [go_sem, List.getElem?_toArray, reduceCtorEq, Nat.reduceEqDiff, Nat.reduceLT, Nat.reduceLeDiff, Nat.reduceAdd, ↓reduceIte, ix]) | (refine call_of (cP) ?_ ?_; (first | rfl | simp only [go_sem, reduceCtorEq, Nat.reduceEqDiff, Nat.reduceLT, Nat.reduceLeDiff, Nat.reduceAdd, Nat.reduceMul, Nat.reduceSub, Nat.reduceBEq, ↓reduceIte, ix, shut_col]); simp only [go_sem, Nat.reduceEqDiff, Nat.reduceLT, ↓reduceIte]) | refine k_of (by assumption) ?_ | refine tr_block ?_ | (refine tr_skip ?_; try simp only [ex_seq]))
                refine tr_cond rfl (fun ht => ?_) (fun hf => ?_)
                · cases ht
                · repeat (first | refine tr_seq_k fun _ _ => ?_ | (refine tr_region ?_; simp only [go_sem, Nat.reduceEqDiff, Nat.reduceLT, ↓reduceIte]) | (refine tr_draw (id := 9) follows 10000 [7] [0, 1, 2, 3, 4, 5, 6, 7, 8, 9, 10, 11, 12] (by kernel_rfl) ?_; simp only [go_sem, List.getElem?_toArray, reduceCtorEq, Nat.reduceEqDiff, Nat.reduceLT, Nat.reduceLeDiff, Nat.reduceAdd, ↓reduceIte, up]) | (refine call_of (cM) ?_ ?_; (first | rfl | simp only [go_sem, reduceCtorEq, Nat.reduceEqDiff, Nat.reduceLT, Nat.reduceLeDiff, Nat.reduceAdd, Nat.reduceMul, Nat.reduceSub, Nat.reduceBEq, ↓reduceIte, up, shut_col]); simp only [go_sem, Nat.reduceEqDiff, Nat.reduceLT, ↓reduceIte, Bool.true_or]) | refine k_of (by assumption) ?_ | (refine tr_skip ?_; try simp only [ex_seq]))
                  refine tr_cond rfl (fun ht => ?_) (fun hf => ?_)
                  · cases ht
                  · repeat (first | refine tr_seq_k fun _ _ => ?_ | (refine tr_region ?_; simp only [go_sem, List.getElem?_toArray, reduceCtorEq, Nat.reduceEqDiff, Nat.reduceLT, ↓reduceIte, d3]) | refine k_of (by assumption) ?_ | (refine tr_skip ?_; try simp only [ex_seq]))
                    refine tr_cond rfl (fun ht => ?_) (fun hf => ?_)
                    · repeat (first | refine tr_seq_k fun _ _ => ?_ | (refine tr_region ?_; simp only [go_sem, Nat.reduceEqDiff, Nat.reduceLT, ↓reduceIte]) | refine k_of (by assumption) ?_ | (refine tr_ret ?_; try simp only [ex_seq_ret, ex_block_ret]))
                      refine (hQ _ _ [iA 4] ?_ (fun m => ?_)).2 <;> simp only [go_sem, Nat.reduceEqDiff, ↓reduceIte, Tryz.f47, hr]
                    · cases hf
              · cases hf
            | false =>
              cases d4 : decide (x.ar > 4) with
              | true =>
                have hE4 : predE l k = 4 := by rw [hE, h1, h2, if_neg (by decide), if_neg (by decide), if_pos (Or.inr (of_decide_eq_true d4))]
                have hr : R = 4 := by rw [e, hh (by rw [hE4]; decide), hE4]
                repeat (first | refine tr_seq_k fun _ _ => ?_ | (refine tr_region ?_; simp only [go_sem, List.getElem?_toArray, reduceCtorEq, Nat.reduceEqDiff, Nat.reduceLT, ↓reduceIte, e1]) | refine k_of (by assumption) ?_)
                refine tr_cond rfl (fun ht => ?_) (fun hf => ?_)
                · repeat (first | refine tr_seq_k fun _ _ => ?_ | (refine tr_region ?_; simp only [go_sem, List.getElem?_toArray, reduceCtorEq, Nat.reduceEqDiff, Nat.reduceLT, Nat.reduceLeDiff, Nat.reduceAdd, ↓reduceIte, ix]) | (refine call_of (cP) ?_ ?_; (first | rfl | simp only [go_sem, reduceCtorEq, Nat.reduceEqDiff, Nat.reduceLT, Nat.reduceLeDiff, Nat.reduceAdd, Nat.reduceMul, Nat.reduceSub, Nat.reduceBEq, ↓reduceIte, ix, shut_col]); simp only [go_sem, Nat.reduceEqDiff, Nat.reduceLT, ↓reduceIte]) | refine k_of (by assumption) ?_ | refine tr_block ?_ | (refine tr_skip ?_; try simp only [ex_seq]))
                  refine tr_cond rfl (fun ht => ?_) (fun hf => ?_)
                  · cases ht
                  · repeat (first | refine tr_seq_k fun _ _ => ?_ | (refine tr_region ?_; simp only [go_sem, Nat.reduceEqDiff, Nat.reduceLT, ↓reduceIte]) | (refine tr_draw (id := 9) follows 10000 [7] [0, 1, 2, 3, 4, 5, 6, 7, 8, 9, 10, 11, 12] (by kernel_rfl) ?_; simp only [go_sem, List.getElem?_toArray, reduceCtorEq, Nat.reduceEqDiff, Nat.reduceLT, Nat.reduceLeDiff, Nat.reduceAdd, ↓reduceIte, up]) | (refine call_of (cM) ?_ ?_; (first | rfl | simp only [go_sem, reduceCtorEq, Nat.reduceEqDiff, Nat.reduceLT, Nat.reduceLeDiff, Nat.reduceAdd, Nat.reduceMul, Nat.reduceSub, Nat.reduceBEq, ↓reduceIte, up, shut_col]); simp only [go_sem, Nat.reduceEqDiff, Nat.reduceLT, ↓reduceIte, Bool.true_or]) | refine k_of (by assumption) ?_ | (refine tr_skip ?_; try simp only [ex_seq]))
                    refine tr_cond rfl (fun ht => ?_) (fun hf => ?_)
                    · cases ht
                    · repeat (first | refine tr_seq_k fun _ _ => ?_ | (refine tr_region ?_; simp only [go_sem, List.getElem?_toArray, reduceCtorEq, Nat.reduceEqDiff, Nat.reduceLT, ↓reduceIte, d3, d4]) | refine k_of (by assumption) ?_ | (refine tr_skip ?_; try simp only [ex_seq]))
                      refine tr_cond rfl (fun ht => ?_) (fun hf => ?_)
                      · repeat (first | refine tr_seq_k fun _ _ => ?_ | (refine tr_region ?_; simp only [go_sem, Nat.reduceEqDiff, Nat.reduceLT, ↓reduceIte]) | refine k_of (by assumption) ?_ | (refine tr_ret ?_; try simp only [ex_seq_ret, ex_block_ret]))
                        refine (hQ _ _ [iA 4] ?_ (fun m => ?_)).2 <;> simp only [go_sem, Nat.reduceEqDiff, ↓reduceIte, Tryz.f47, hr]
                      · cases hf
                · cases hf
              | false =>
                have hE0 : predE l k = 0 := by rw [hE, h1, h2, if_neg (by decide), if_neg (by decide), if_neg (fun h => h.elim (of_decide_eq_false d3) (of_decide_eq_false d4))]
                repeat (first | refine tr_seq_k fun _ _ => ?_ | (refine tr_region ?_; simp only [go_sem, List.getElem?_toArray, reduceCtorEq, Nat.reduceEqDiff, Nat.reduceLT, ↓reduceIte, e1]) | refine k_of (by assumption) ?_)
                refine tr_cond rfl (fun ht => ?_) (fun hf => ?_)
                · repeat (first | refine tr_seq_k fun _ _ => ?_ | (refine tr_region ?_; simp only [go_sem, List.getElem?_toArray, reduceCtorEq, Nat.reduceEqDiff, Nat.reduceLT, Nat.reduceLeDiff, Nat.reduceAdd, ↓reduceIte, ix]) | (refine call_of (cP) ?_ ?_; (first | rfl | simp only [go_sem, reduceCtorEq, Nat.reduceEqDiff, Nat.reduceLT, Nat.reduceLeDiff, Nat.reduceAdd, Nat.reduceMul, Nat.reduceSub, Nat.reduceBEq, ↓reduceIte, ix, shut_col]); simp only [go_sem, Nat.reduceEqDiff, Nat.reduceLT, ↓reduceIte]) | refine k_of (by assumption) ?_ | refine tr_block ?_ | (refine tr_skip ?_; try simp only [ex_seq]))
                  refine tr_cond rfl (fun ht => ?_) (fun hf => ?_)
                  · cases ht
                  · repeat (first | refine tr_seq_k fun _ _ => ?_ | (refine tr_region ?_; simp only [go_sem, Nat.reduceEqDiff, Nat.reduceLT, ↓reduceIte]) | (refine tr_draw (id := 9) follows 10000 [7] [0, 1, 2, 3, 4, 5, 6, 7, 8, 9, 10, 11, 12] (by kernel_rfl) ?_; simp only [go_sem, List.getElem?_toArray, reduceCtorEq, Nat.reduceEqDiff, Nat.reduceLT, Nat.reduceLeDiff, Nat.reduceAdd, ↓reduceIte, up]) | (refine call_of (cM) ?_ ?_; (first | rfl | simp only [go_sem, reduceCtorEq, Nat.reduceEqDiff, Nat.reduceLT, Nat.reduceLeDiff, Nat.reduceAdd, Nat.reduceMul, Nat.reduceSub, Nat.reduceBEq, ↓reduceIte, up, shut_col]); simp only [go_sem, Nat.reduceEqDiff, Nat.reduceLT, ↓reduceIte, Bool.true_or]) | refine k_of (by assumption) ?_ | (refine tr_skip ?_; try simp only [ex_seq]))
                    refine tr_cond rfl (fun ht => ?_) (fun hf => ?_)
                    · cases ht
                    · repeat (first | refine tr_seq_k fun _ _ => ?_ | (refine tr_region ?_; simp only [go_sem, List.getElem?_toArray, reduceCtorEq, Nat.reduceEqDiff, Nat.reduceLT, ↓reduceIte, d3, d4]) | refine k_of (by assumption) ?_ | (refine tr_skip ?_; try simp only [ex_seq]))
                      refine tr_cond rfl (fun ht => ?_) (fun hf => ?_)
                      · cases ht
                      · repeat (first | (refine tr_region ?_; simp only [go_sem, Nat.reduceEqDiff, Nat.reduceLT, ↓reduceIte, ws]) | refine k_of (by assumption) ?_ | (refine tr_skip ?_; try simp only [ex_seq, ex_block]))
                        exact hK (k + 1) _ _ ⟨hkl, hn hE0⟩ ⟨⟨rfl, rfl, trivial⟩, Keep.of (eh := [_]) (ew := []) rfl rfl, rfl, rfl, Nat.le_refl _, Nat.le_refl _⟩ (by omega)
                · cases hf
      · have e1 : decide ((k : Int) < (l.length : Nat)) = false := decide_eq_false (by omega)
        have hr : R = 0 := by rw [e, firstE_none fun j hj => hp j (by omega)]
        repeat (first | refine tr_seq_k fun _ _ => ?_ | (refine tr_region ?_; simp only [go_sem, List.getElem?_toArray, reduceCtorEq, Nat.reduceEqDiff, Nat.reduceLT, ↓reduceIte, e1]) | refine k_of (by assumption) ?_)
        refine tr_cond rfl (fun ht => ?_) (fun hf => ?_)
        · cases ht
        · repeat (first | refine tr_seq_k fun _ _ => ?_ | (refine tr_region ?_; simp only [go_sem, Nat.reduceEqDiff, Nat.reduceLT, ↓reduceIte]) | refine k_of (by assumption) ?_ | (refine tr_exit ?_; try simp only [ex_seq_exit, ex_block_exit, ex_seq, ↓reduceIte]) | (refine tr_ret ?_; try simp only [ex_seq_ret, ex_block_ret]))
          refine (hQ _ _ [iA 0] ?_ (fun m => ?_)).2 <;> simp only [go_sem, Nat.reduceEqDiff, ↓reduceIte, Tryz.f47, hr]
theorem clear1_does (P : List ByteArray) (e1 : Bool) (c1 c2 c3 c4 c5 c6 : CV) (c : Clr) (hP : P.length ≤ 1000000) (hl : c.reads.length ≤ 1000000) : Does Tryz.prog 74 [.agg [slC stC e1 P, c1, c2, c3, c4, c5, c6], clA c] (fun m => (iA (clr12 P c), m)) := by
  obtain ⟨who, ex, l⟩ := c
  dsimp only at hl
  have e : clr12 P ⟨who, ex, l⟩ = if (l.length : Int) < 1 ∨ (l.length : Int) > 16 then 4 else firstE (clrE P ⟨who, ex, l⟩) l.length := rfl
  generalize clr12 P ⟨who, ex, l⟩ = R at *
  cases d1 : decide ((l.length : Int) < 1) with
  | true =>
    have hr : R = 4 := by rw [e, if_pos (Or.inl (of_decide_eq_true d1))]
    refine does_of' Tryz.func74 rfl (by kernel_rfl) rfl Tryz.ntmps74 rfl rfl fun Q hQ => ?_
    repeat (first | refine tr_seq_k fun _ _ => ?_ | (refine tr_region ?_; simp only [go_sem, List.getElem?_toArray, reduceCtorEq, Nat.reduceEqDiff, Nat.reduceLT, ↓reduceIte, d1]) | refine k_of (by assumption) ?_)
    refine tr_cond rfl (fun ht => ?_) (fun hf => ?_)
    · repeat (first | refine tr_seq_k fun _ _ => ?_ | (refine tr_region ?_; simp only [go_sem, reduceCtorEq, Nat.reduceEqDiff, Nat.reduceLT, ↓reduceIte]) | refine k_of (by assumption) ?_ | (refine tr_ret ?_; try simp only [ex_seq_ret]))
      refine (hQ _ _ [iA 4] ?_ (fun m => ?_)).2 <;> simp only [go_sem, reduceCtorEq, Nat.reduceEqDiff, ↓reduceIte, Tryz.f74, hr]
    · cases hf
  | false =>
    cases d2 : decide ((l.length : Int) > 16) with
    | true =>
      have hr : R = 4 := by rw [e, if_pos (Or.inr (of_decide_eq_true d2))]
      refine does_of' Tryz.func74 rfl (by kernel_rfl) rfl Tryz.ntmps74 rfl rfl fun Q hQ => ?_
      repeat (first | refine tr_seq_k fun _ _ => ?_ | (refine tr_region ?_; simp only [go_sem, List.getElem?_toArray, reduceCtorEq, Nat.reduceEqDiff, Nat.reduceLT, ↓reduceIte, d1, d2]) | refine k_of (by assumption) ?_)
      refine tr_cond rfl (fun ht => ?_) (fun hf => ?_)
      · repeat (first | refine tr_seq_k fun _ _ => ?_ | (refine tr_region ?_; simp only [go_sem, reduceCtorEq, Nat.reduceEqDiff, Nat.reduceLT, ↓reduceIte]) | refine k_of (by assumption) ?_ | (refine tr_ret ?_; try simp only [ex_seq_ret]))
        refine (hQ _ _ [iA 4] ?_ (fun m => ?_)).2 <;> simp only [go_sem, reduceCtorEq, Nat.reduceEqDiff, ↓reduceIte, Tryz.f74, hr]
      · cases hf
    | false =>
      rw [if_neg (fun h => h.elim (of_decide_eq_false d1) (of_decide_eq_false d2))] at e
      refine does_of' Tryz.func74 rfl (by kernel_rfl) rfl Tryz.ntmps74 rfl rfl fun Q hQ => ?_
      repeat (first | refine tr_seq_k fun _ _ => ?_ | (refine tr_region ?_; simp only [go_sem, List.getElem?_toArray, reduceCtorEq, Nat.reduceEqDiff, Nat.reduceLT, ↓reduceIte, d1, d2]) | refine k_of (by assumption) ?_)
      refine tr_cond rfl (fun ht => ?_) (fun hf => ?_)
      · cases ht
      · repeat (first | refine tr_seq_k fun _ _ => ?_ | (refine tr_region ?_; simp only [go_sem, reduceCtorEq, Nat.reduceEqDiff, Nat.reduceLT, ↓reduceIte]) | refine k_of (by assumption) ?_ | refine tr_block ?_ | (refine tr_skip ?_; try simp only [ex_seq]))
        refine tr_loop_k (σ := Nat) (fun k => [(2, .ptr 0 0), (3, .ptr 1 0), (5, iA k)]) (fun _ => ⟨[⟨false, [.c (slC stC e1 P), .c c1, .c c2, .c c3, .c c4, .c c5, .c c6]⟩, ⟨false, [.c (.v (.string who)), .c (slC stC ex l)]⟩], []⟩) (fun k => k ≤ l.length ∧ ∀ j, j < k → clrE P ⟨who, ex, l⟩ j = 0) (fun k => l.length - k) 0 ⟨Nat.zero_le _, fun _ h => absurd h (Nat.not_lt_zero _)⟩ ⟨rfl, rfl, rfl, trivial⟩ rfl ?_
        rintro k ⟨hk, hp⟩ K hK
        by_cases hkl : k < l.length
        · have q1 : decide ((k : Int) < (l.length : Nat)) = true := decide_eq_true (by omega)
          have ix := idxS12 (ex := ex) hkl
          have ws := wrap_succ (show k ≤ 1000000000 by omega)
          have up := upS (ex := ex) hkl
          have hh := firstE_hit (f := clrE P ⟨who, ex, l⟩) hp hkl
          have hn := zero_next (f := clrE P ⟨who, ex, l⟩) hp
          have hE : clrE P ⟨who, ex, l⟩ k = if prinM P l[k] = false then 6 else if l[k] = who then 11 else if prinM (l.take k) l[k] = true then 5 else 0 := by unfold clrE bAt; dsimp only; rw [at_get hkl]
          have cM := prin_does (l.take k) false (.sl true 0 []) (.sl true 0 []) (.v (.int .i64 0)) (.v (.int .i64 0)) (.sl true 0 []) (.sl true 0 []) l[k] (by rw [List.length_take]; omega)
          have cP := prin_does P e1 c1 c2 c3 c4 c5 c6 l[k] hP
          generalize l[k] = x at *
          cases h1 : prinM P x with
          | false =>
            rw [h1] at cP
            have hE3 : clrE P ⟨who, ex, l⟩ k = 6 := by rw [hE, h1]; rfl
            have hr : R = 6 := by rw [e, hh (by rw [hE3]; decide), hE3]
            repeat (first | refine tr_seq_k fun _ _ => ?_ | (refine tr_region ?_; simp only [go_sem, List.getElem?_toArray, reduceCtorEq, Nat.reduceEqDiff, Nat.reduceLT, ↓reduceIte, q1]) | refine k_of (by assumption) ?_)
            refine tr_cond rfl (fun ht => ?_) (fun hf => ?_)
            · repeat (first | refine tr_seq_k fun _ _ => ?_ | (refine tr_draw (id := 6) follows 10000 [6] [0, 1, 2, 3, 4, 5, 6, 7] (by kernel_rfl) ?_; simp only [go_sem, List.getElem?_toArray, reduceCtorEq, Nat.reduceEqDiff, Nat.reduceLT, Nat.reduceLeDiff, Nat.reduceAdd, ↓reduceIte, ix]) | (refine call_of (cP) ?_ ?_; (first | rfl | simp only [go_sem, reduceCtorEq, Nat.reduceEqDiff, Nat.reduceLT, Nat.reduceLeDiff, Nat.reduceAdd, Nat.reduceMul, Nat.reduceSub, Nat.reduceBEq, ↓reduceIte, ix, shut_col]); simp only [go_sem, Nat.reduceEqDiff, Nat.reduceLT, ↓reduceIte, Bool.true_or]) | refine k_of (by assumption) ?_ | refine tr_block ?_ | (refine tr_skip ?_; try simp only [ex_seq]))
              refine tr_cond rfl (fun ht => ?_) (fun hf => ?_)
              · repeat (first | refine tr_seq_k fun _ _ => ?_ | (refine tr_region ?_; simp only [go_sem, Nat.reduceEqDiff, Nat.reduceLT, ↓reduceIte]) | refine k_of (by assumption) ?_ | (refine tr_ret ?_; try simp only [ex_seq_ret, ex_block_ret]))
                refine (hQ _ _ [iA 6] ?_ (fun m => ?_)).2 <;> simp only [go_sem, Nat.reduceEqDiff, ↓reduceIte, Tryz.f74, hr]
              · cases hf
            · cases hf
          | true =>
            rw [h1] at cP
            cases h3 : decide (x = who) with
            | true =>
              have hE5 : clrE P ⟨who, ex, l⟩ k = 11 := by rw [hE, h1, if_neg (by decide), if_pos (of_decide_eq_true h3)]
              have hr : R = 11 := by rw [e, hh (by rw [hE5]; decide), hE5]
              repeat (first | refine tr_seq_k fun _ _ => ?_ | (refine tr_region ?_; simp only [go_sem, List.getElem?_toArray, reduceCtorEq, Nat.reduceEqDiff, Nat.reduceLT, ↓reduceIte, q1]) | refine k_of (by assumption) ?_)
              refine tr_cond rfl (fun ht => ?_) (fun hf => ?_)
              · repeat (first | refine tr_seq_k fun _ _ => ?_ | (refine tr_draw (id := 6) follows 10000 [6] [0, 1, 2, 3, 4, 5, 6, 7] (by kernel_rfl) ?_; simp only [go_sem, List.getElem?_toArray, reduceCtorEq, Nat.reduceEqDiff, Nat.reduceLT, Nat.reduceLeDiff, Nat.reduceAdd, ↓reduceIte, ix]) | (refine call_of (cP) ?_ ?_; (first | rfl | simp only [go_sem, reduceCtorEq, Nat.reduceEqDiff, Nat.reduceLT, Nat.reduceLeDiff, Nat.reduceAdd, Nat.reduceMul, Nat.reduceSub, Nat.reduceBEq, ↓reduceIte, ix, shut_col]); simp only [go_sem, Nat.reduceEqDiff, Nat.reduceLT, ↓reduceIte, Bool.true_or]) | refine k_of (by assumption) ?_ | refine tr_block ?_ | (refine tr_skip ?_; try simp only [ex_seq]))
                refine tr_cond rfl (fun ht => ?_) (fun hf => ?_)
                · cases ht
                · repeat (first | refine tr_seq_k fun _ _ => ?_ | (refine tr_drawC (id := 8) follows 10000 (by kernel_rfl) ?_; simp only [go_sem, reduceCtorEq, Nat.reduceEqDiff, Nat.reduceLT, ↓reduceIte, ix, h3]) | refine k_of (by assumption) ?_ | (refine tr_skip ?_; try simp only [ex_seq]))
                  refine tr_cond rfl (fun ht => ?_) (fun hf => ?_)
                  · repeat (first | refine tr_seq_k fun _ _ => ?_ | (refine tr_region ?_; simp only [go_sem, Nat.reduceEqDiff, Nat.reduceLT, ↓reduceIte]) | refine k_of (by assumption) ?_ | (refine tr_ret ?_; try simp only [ex_seq_ret, ex_block_ret]))
                    refine (hQ _ _ [iA 11] ?_ (fun m => ?_)).2 <;> simp only [go_sem, Nat.reduceEqDiff, ↓reduceIte, Tryz.f74, hr]
                  · cases hf
              · cases hf
            | false =>
              cases h2 : prinM (l.take k) x with
              | true =>
                rw [h2] at cM
                have hE5 : clrE P ⟨who, ex, l⟩ k = 5 := by rw [hE, h1, h2, if_neg (by decide), if_neg (of_decide_eq_false h3)]; rfl
                have hr : R = 5 := by rw [e, hh (by rw [hE5]; decide), hE5]
                repeat (first | refine tr_seq_k fun _ _ => ?_ | (refine tr_region ?_; simp only [go_sem, List.getElem?_toArray, reduceCtorEq, Nat.reduceEqDiff, Nat.reduceLT, ↓reduceIte, q1]) | refine k_of (by assumption) ?_)
                refine tr_cond rfl (fun ht => ?_) (fun hf => ?_)
                · repeat (first | refine tr_seq_k fun _ _ => ?_ | (refine tr_draw (id := 6) follows 10000 [6] [0, 1, 2, 3, 4, 5, 6, 7] (by kernel_rfl) ?_; simp only [go_sem, List.getElem?_toArray, reduceCtorEq, Nat.reduceEqDiff, Nat.reduceLT, Nat.reduceLeDiff, Nat.reduceAdd, ↓reduceIte, ix]) | (refine call_of (cP) ?_ ?_; (first | rfl | simp only [go_sem, reduceCtorEq, Nat.reduceEqDiff, Nat.reduceLT, Nat.reduceLeDiff, Nat.reduceAdd, Nat.reduceMul, Nat.reduceSub, Nat.reduceBEq, ↓reduceIte, ix, shut_col]); simp only [go_sem, Nat.reduceEqDiff, Nat.reduceLT, ↓reduceIte, Bool.true_or]) | refine k_of (by assumption) ?_ | refine tr_block ?_ | (refine tr_skip ?_; try simp only [ex_seq]))
                  refine tr_cond rfl (fun ht => ?_) (fun hf => ?_)
                  · cases ht
                  · repeat (first | refine tr_seq_k fun _ _ => ?_ | (refine tr_drawC (id := 8) follows 10000 (by kernel_rfl) ?_; simp only [go_sem, reduceCtorEq, Nat.reduceEqDiff, Nat.reduceLT, ↓reduceIte, ix, h3]) | refine k_of (by assumption) ?_ | (refine tr_skip ?_; try simp only [ex_seq]))
                    refine tr_cond rfl (fun ht => ?_) (fun hf => ?_)
                    · cases ht
                    · repeat (first | refine tr_seq_k fun _ _ => ?_ | (refine tr_draw (id := 10) follows 10000 [10] [0, 1, 2, 3, 4, 5, 6, 7, 8, 9, 10] (by kernel_rfl) ?_; simp only [go_sem, List.getElem?_toArray, reduceCtorEq, Nat.reduceEqDiff, Nat.reduceLT, Nat.reduceLeDiff, Nat.reduceAdd, ↓reduceIte, ix, up]) | (refine call_of (cM) ?_ ?_; (first | rfl | simp only [go_sem, reduceCtorEq, Nat.reduceEqDiff, Nat.reduceLT, Nat.reduceLeDiff, Nat.reduceAdd, Nat.reduceMul, Nat.reduceSub, Nat.reduceBEq, ↓reduceIte, ix, up, shut_col]); simp only [go_sem, Bool.true_or]) | refine k_of (by assumption) ?_ | (refine tr_skip ?_; try simp only [ex_seq]))
                      refine tr_cond rfl (fun ht => ?_) (fun hf => ?_)
                      · repeat (first | refine tr_seq_k fun _ _ => ?_ | (refine tr_region ?_; simp only [go_sem, Nat.reduceEqDiff, Nat.reduceLT, ↓reduceIte]) | refine k_of (by assumption) ?_ | (refine tr_ret ?_; try simp only [ex_seq_ret, ex_block_ret]))
                        refine (hQ _ _ [iA 5] ?_ (fun m => ?_)).2 <;> simp only [go_sem, Nat.reduceEqDiff, ↓reduceIte, Tryz.f74, hr]
                      · cases hf
                · cases hf
              | false =>
                rw [h2] at cM
                have hE0 : clrE P ⟨who, ex, l⟩ k = 0 := by rw [hE, h1, h2, if_neg (by decide), if_neg (of_decide_eq_false h3)]; rfl
                repeat (first | refine tr_seq_k fun _ _ => ?_ | (refine tr_region ?_; simp only [go_sem, List.getElem?_toArray, reduceCtorEq, Nat.reduceEqDiff, Nat.reduceLT, ↓reduceIte, q1]) | refine k_of (by assumption) ?_)
                refine tr_cond rfl (fun ht => ?_) (fun hf => ?_)
                · repeat (first | refine tr_seq_k fun _ _ => ?_ | (refine tr_draw (id := 6) follows 10000 [6] [0, 1, 2, 3, 4, 5, 6, 7] (by kernel_rfl) ?_; simp only [go_sem, List.getElem?_toArray, reduceCtorEq, Nat.reduceEqDiff, Nat.reduceLT, Nat.reduceLeDiff, Nat.reduceAdd, ↓reduceIte, ix]) | (refine call_of (cP) ?_ ?_; (first | rfl | simp only [go_sem, reduceCtorEq, Nat.reduceEqDiff, Nat.reduceLT, Nat.reduceLeDiff, Nat.reduceAdd, Nat.reduceMul, Nat.reduceSub, Nat.reduceBEq, ↓reduceIte, ix, shut_col]); simp only [go_sem, Nat.reduceEqDiff, Nat.reduceLT, ↓reduceIte, Bool.true_or]) | refine k_of (by assumption) ?_ | refine tr_block ?_ | (refine tr_skip ?_; try simp only [ex_seq]))
                  refine tr_cond rfl (fun ht => ?_) (fun hf => ?_)
                  · cases ht
                  · repeat (first | refine tr_seq_k fun _ _ => ?_ | (refine tr_drawC (id := 8) follows 10000 (by kernel_rfl) ?_; simp only [go_sem, reduceCtorEq, Nat.reduceEqDiff, Nat.reduceLT, ↓reduceIte, ix, h3]) | refine k_of (by assumption) ?_ | (refine tr_skip ?_; try simp only [ex_seq]))
                    refine tr_cond rfl (fun ht => ?_) (fun hf => ?_)
                    · cases ht
                    · repeat (first | refine tr_seq_k fun _ _ => ?_ | (refine tr_draw (id := 10) follows 10000 [10] [0, 1, 2, 3, 4, 5, 6, 7, 8, 9, 10] (by kernel_rfl) ?_; simp only [go_sem, List.getElem?_toArray, reduceCtorEq, Nat.reduceEqDiff, Nat.reduceLT, Nat.reduceLeDiff, Nat.reduceAdd, ↓reduceIte, ix, up]) | (refine call_of (cM) ?_ ?_; (first | rfl | simp only [go_sem, reduceCtorEq, Nat.reduceEqDiff, Nat.reduceLT, Nat.reduceLeDiff, Nat.reduceAdd, Nat.reduceMul, Nat.reduceSub, Nat.reduceBEq, ↓reduceIte, ix, up, shut_col]); simp only [go_sem, Bool.true_or]) | refine k_of (by assumption) ?_ | (refine tr_skip ?_; try simp only [ex_seq]))
                      refine tr_cond rfl (fun ht => ?_) (fun hf => ?_)
                      · cases ht
                      · repeat (first | (refine tr_region ?_; simp only [go_sem, Nat.reduceEqDiff, Nat.reduceLT, ↓reduceIte, ws]) | refine k_of (by assumption) ?_ | (refine tr_skip ?_; try simp only [ex_seq, ex_block]))
                        exact hK (k + 1) _ _ ⟨hkl, hn hE0⟩ ⟨⟨rfl, rfl, rfl, trivial⟩, Keep.refl _, rfl, rfl, Nat.le_refl _, Nat.le_refl _⟩ (by omega)
                · cases hf
        · have q1 : decide ((k : Int) < (l.length : Nat)) = false := decide_eq_false (by omega)
          have hr : R = 0 := by rw [e, firstE_none fun j hj => hp j (by omega)]
          repeat (first | refine tr_seq_k fun _ _ => ?_ | (refine tr_region ?_; simp only [go_sem, List.getElem?_toArray, reduceCtorEq, Nat.reduceEqDiff, Nat.reduceLT, ↓reduceIte, q1]) | refine k_of (by assumption) ?_)
          refine tr_cond rfl (fun ht => ?_) (fun hf => ?_)
          · cases ht
          · repeat (first | refine tr_seq_k fun _ _ => ?_ | (refine tr_region ?_; simp only [go_sem, Nat.reduceEqDiff, Nat.reduceLT, ↓reduceIte]) | refine k_of (by assumption) ?_ | (refine tr_exit ?_; try simp only [ex_seq_exit, ex_block_exit, ex_seq, ↓reduceIte]) | (refine tr_ret ?_; try simp only [ex_seq_ret, ex_block_ret]))
            refine (hQ _ _ [iA 0] ?_ (fun m => ?_)).2 <;> simp only [go_sem, Nat.reduceEqDiff, ↓reduceIte, Tryz.f74, hr]
theorem clears_does (P : List ByteArray) (e1 e3 : Bool) (c1 c3 c4 c5 c6 : CV) (l : List Clr) (hP : P.length ≤ 1000000) (hl : l.length ≤ 1000000) (hR : ∀ c ∈ l, c.reads.length ≤ 1000000) : Does Tryz.prog 48 [.agg [slC stC e1 P, c1, slC clC e3 l, c3, c4, c5, c6]] (fun m => (iA (clrs12 P l), m)) := by
  have e : clrs12 P l = firstE (clrsE P l) l.length := rfl
  generalize clrs12 P l = R at *
  refine does_of' Tryz.func48 rfl (by kernel_rfl) rfl Tryz.ntmps48 rfl rfl fun Q hQ => ?_
  repeat (first | refine tr_seq_k fun _ _ => ?_ | (refine tr_region ?_; simp only [go_sem, reduceCtorEq, Nat.reduceEqDiff, Nat.reduceLT, ↓reduceIte]) | refine k_of (by assumption) ?_ | refine tr_block ?_)
  refine tr_loop_k (σ := Nat) (fun k => [(1, .ptr 0 0), (3, iA k)]) (fun _ => ⟨[⟨false, [.c (slC stC e1 P), .c c1, .c (slC clC e3 l), .c c3, .c c4, .c c5, .c c6]⟩], []⟩) (fun k => k ≤ l.length ∧ ∀ j, j < k → clrsE P l j = 0) (fun k => l.length - k) 0 ⟨Nat.zero_le _, fun _ h => absurd h (Nat.not_lt_zero _)⟩ ⟨rfl, rfl, trivial⟩ rfl ?_
  rintro k ⟨hk, hp⟩ K hK
  by_cases hkl : k < l.length
  · have q1 : decide ((k : Int) < (l.length : Nat)) = true := decide_eq_true (by omega)
    have ix := idxC (ex := e3) hkl
    have ws := wrap_succ (show k ≤ 1000000000 by omega)
    have hh := firstE_hit (f := clrsE P l) hp hkl
    have hn := zero_next (f := clrsE P l) hp
    have hE : clrsE P l k = if prinM P l[k].who = false then 6 else if prinM ((l.take k).map (·.who)) l[k].who = true then 5 else clr12 P l[k] := by unfold clrsE cAt; rw [at_get hkl]
    have cP := prin_does P e1 c1 (slC clC e3 l) c3 c4 c5 c6 l[k].who hP
    have cC := clear1_does P e1 c1 (slC clC e3 l) c3 c4 c5 c6 l[k] hP (hR _ (List.getElem_mem hkl))
    generalize l[k] = x at *
    cases h1 : prinM P x.who with
    | false =>
      rw [h1] at cP
      have hE3 : clrsE P l k = 6 := by rw [hE, h1]; rfl
      have hr : R = 6 := by rw [e, hh (by rw [hE3]; decide), hE3]
      repeat (first | refine tr_seq_k fun _ _ => ?_ | (refine tr_region ?_; simp only [go_sem, List.getElem?_toArray, reduceCtorEq, Nat.reduceEqDiff, Nat.reduceLT, ↓reduceIte, q1]) | refine k_of (by assumption) ?_)
      refine tr_cond rfl (fun ht => ?_) (fun hf => ?_)
      · repeat (first | refine tr_seq_k fun _ _ => ?_ | (refine tr_draw (id := 4) follows 10000 [7] [0, 1, 2, 3, 4, 5, 6, 7, 8] (by kernel_rfl) ?_; simp only [go_sem, List.getElem?_toArray, reduceCtorEq, Nat.reduceEqDiff, Nat.reduceLT, Nat.reduceLeDiff, Nat.reduceAdd, ↓reduceIte, ix]) | (refine call_of (cP) ?_ ?_; (first | rfl | simp only [go_sem, reduceCtorEq, Nat.reduceEqDiff, Nat.reduceLT, Nat.reduceLeDiff, Nat.reduceAdd, Nat.reduceMul, Nat.reduceSub, Nat.reduceBEq, ↓reduceIte, ix, shut_col]); simp only [go_sem, Nat.reduceEqDiff, Nat.reduceLT, ↓reduceIte, Bool.true_or]) | refine k_of (by assumption) ?_ | refine tr_block ?_ | (refine tr_skip ?_; try simp only [ex_seq]))
        refine tr_cond rfl (fun ht => ?_) (fun hf => ?_)
        · repeat (first | refine tr_seq_k fun _ _ => ?_ | (refine tr_region ?_; simp only [go_sem, Nat.reduceEqDiff, Nat.reduceLT, ↓reduceIte]) | refine k_of (by assumption) ?_ | (refine tr_ret ?_; try simp only [ex_seq_ret, ex_block_ret]))
          refine (hQ _ _ [iA 6] ?_ (fun m => ?_)).2 <;> simp only [go_sem, Nat.reduceEqDiff, ↓reduceIte, Tryz.f48, hr]
        · cases hf
      · cases hf
    | true =>
      rw [h1] at cP
      repeat (first | refine tr_seq_k fun _ _ => ?_ | (refine tr_region ?_; simp only [go_sem, List.getElem?_toArray, reduceCtorEq, Nat.reduceEqDiff, Nat.reduceLT, ↓reduceIte, q1]) | refine k_of (by assumption) ?_)
      refine tr_cond rfl (fun ht => ?_) (fun hf => ?_)
      · repeat (first | refine tr_seq_k fun _ _ => ?_ | (refine tr_draw (id := 4) follows 10000 [7] [0, 1, 2, 3, 4, 5, 6, 7, 8] (by kernel_rfl) ?_; simp only [go_sem, List.getElem?_toArray, reduceCtorEq, Nat.reduceEqDiff, Nat.reduceLT, Nat.reduceLeDiff, Nat.reduceAdd, ↓reduceIte, ix]) | (refine call_of (cP) ?_ ?_; (first | rfl | simp only [go_sem, reduceCtorEq, Nat.reduceEqDiff, Nat.reduceLT, Nat.reduceLeDiff, Nat.reduceAdd, Nat.reduceMul, Nat.reduceSub, Nat.reduceBEq, ↓reduceIte, ix, shut_col]); simp only [go_sem, Nat.reduceEqDiff, Nat.reduceLT, ↓reduceIte, Bool.true_or]) | refine k_of (by assumption) ?_ | refine tr_block ?_ | (refine tr_skip ?_; try simp only [ex_seq]))
        refine tr_cond rfl (fun ht => ?_) (fun hf => ?_)
        · cases ht
        · repeat (first | refine tr_seq_k fun _ _ => ?_ | (refine tr_region ?_; simp only [go_sem, Nat.reduceEqDiff, Nat.reduceLT, ↓reduceIte]) | refine k_of (by assumption) ?_ | refine tr_block ?_ | (refine tr_skip ?_; try simp only [ex_seq]))
          refine tr_loop_k (σ := Nat) (fun i => [(1, .ptr 0 0), (3, iA k), (4, iA i)]) (fun _ => ⟨[⟨false, [.c (slC stC e1 P), .c c1, .c (slC clC e3 l), .c c3, .c c4, .c c5, .c c6]⟩], []⟩) (fun i => i ≤ k ∧ prinM ((l.take i).map (·.who)) x.who = false) (fun i => k - i) 0 ⟨Nat.zero_le _, rfl⟩ ⟨rfl, rfl, rfl, trivial⟩ rfl ?_
          rintro i ⟨hi, hpi⟩ K2 hK2
          by_cases hik : i < k
          · have q2 : decide ((i : Int) < (k : Nat)) = true := decide_eq_true (by omega)
            have hil : i < l.length := by omega
            have ix2 := idxC (ex := e3) hil
            have ws2 := wrap_succ (show i ≤ 1000000000 by omega)
            have hni : prinM ((l.take (i + 1)).map (·.who)) x.who = (prinM ((l.take i).map (·.who)) x.who || decide (l[i].who = x.who)) := by
              rw [List.take_succ_eq_append_getElem hil, List.map_append]
              unfold prinM
              rw [List.any_append]
              simp
            have hhit : l[i].who = x.who → prinM ((l.take k).map (·.who)) x.who = true := fun h => by
              rw [prinM_iff, List.mem_map]
              exact ⟨l[i], by rw [List.mem_take_iff_getElem]; exact ⟨i, by omega, rfl⟩, h⟩
            generalize l[i] = y at *
            cases h2 : decide (y.who = x.who) with
            | true =>
              have hE5 : clrsE P l k = 5 := by rw [hE, h1, hhit (of_decide_eq_true h2)]; rfl
              have hr : R = 5 := by rw [e, hh (by rw [hE5]; decide), hE5]
              repeat (first | refine tr_seq_k fun _ _ => ?_ | (refine tr_region ?_; simp only [go_sem, Nat.reduceEqDiff, Nat.reduceLT, ↓reduceIte, q2]) | refine k_of (by assumption) ?_)
              refine tr_cond rfl (fun ht => ?_) (fun hf => ?_)
              · repeat (first | refine tr_seq_k fun _ _ => ?_ | (refine tr_drawC (id := 9) follows 10000 (by kernel_rfl) ?_; simp only [go_sem, reduceCtorEq, Nat.reduceEqDiff, Nat.reduceLT, ↓reduceIte, ix, ix2, h2]) | refine k_of (by assumption) ?_ | refine tr_block ?_ | (refine tr_skip ?_; try simp only [ex_seq]))
                refine tr_cond rfl (fun ht => ?_) (fun hf => ?_)
                · repeat (first | refine tr_seq_k fun _ _ => ?_ | (refine tr_region ?_; simp only [go_sem, Nat.reduceEqDiff, Nat.reduceLT, ↓reduceIte]) | refine k_of (by assumption) ?_ | (refine tr_ret ?_; try simp only [ex_seq_ret, ex_block_ret]))
                  refine (hQ _ _ [iA 5] ?_ (fun m => ?_)).2 <;> simp only [go_sem, Nat.reduceEqDiff, ↓reduceIte, Tryz.f48, hr]
                · cases hf
              · cases hf
            | false =>
              repeat (first | refine tr_seq_k fun _ _ => ?_ | (refine tr_region ?_; simp only [go_sem, Nat.reduceEqDiff, Nat.reduceLT, ↓reduceIte, q2]) | refine k_of (by assumption) ?_)
              refine tr_cond rfl (fun ht => ?_) (fun hf => ?_)
              · repeat (first | refine tr_seq_k fun _ _ => ?_ | (refine tr_drawC (id := 9) follows 10000 (by kernel_rfl) ?_; simp only [go_sem, reduceCtorEq, Nat.reduceEqDiff, Nat.reduceLT, ↓reduceIte, ix, ix2, h2]) | refine k_of (by assumption) ?_ | refine tr_block ?_ | (refine tr_skip ?_; try simp only [ex_seq]))
                refine tr_cond rfl (fun ht => ?_) (fun hf => ?_)
                · cases ht
                · repeat (first | (refine tr_region ?_; simp only [go_sem, Nat.reduceEqDiff, Nat.reduceLT, ↓reduceIte, ws2]) | refine k_of (by assumption) ?_ | (refine tr_skip ?_; try simp only [ex_seq, ex_block]))
                  exact hK2 (i + 1) _ _ ⟨hik, by rw [hni, hpi, h2]; rfl⟩ ⟨⟨rfl, rfl, rfl, trivial⟩, Keep.refl _, rfl, rfl, Nat.le_refl _, Nat.le_refl _⟩ (by omega)
              · cases hf
          · have q2 : decide ((i : Int) < (k : Nat)) = false := decide_eq_false (by omega)
            obtain rfl : i = k := by omega
            rw [hpi, h1, if_neg (by decide), if_neg (by decide)] at hE
            cases h3 : decide (clr12 P x = 0) with
            | false =>
              have hr : R = clr12 P x := by rw [e, hh (by rw [hE]; exact of_decide_eq_false h3), hE]
              repeat (first | refine tr_seq_k fun _ _ => ?_ | (refine tr_region ?_; simp only [go_sem, Nat.reduceEqDiff, Nat.reduceLT, ↓reduceIte, q2]) | refine k_of (by assumption) ?_)
              refine tr_cond rfl (fun ht => ?_) (fun hf => ?_)
              · cases ht
              · repeat (first | refine tr_seq_k fun _ _ => ?_ | (refine tr_region ?_; simp only [go_sem, Nat.reduceEqDiff, Nat.reduceLT, ↓reduceIte, h3]) | (refine tr_draw (id := 11) follows 10000 [6] [0, 1, 2, 3, 4, 5, 6, 7] (by kernel_rfl) ?_; simp only [go_sem, List.getElem?_toArray, reduceCtorEq, Nat.reduceEqDiff, Nat.reduceLT, Nat.reduceLeDiff, Nat.reduceAdd, ↓reduceIte, ix]) | (refine call_of (cC) ?_ ?_; (first | rfl | simp only [go_sem, reduceCtorEq, Nat.reduceEqDiff, Nat.reduceLT, Nat.reduceLeDiff, Nat.reduceAdd, Nat.reduceMul, Nat.reduceSub, Nat.reduceBEq, ↓reduceIte, ix, h3, shut_col]); simp only [go_sem, Bool.true_or]) | refine k_of (by assumption) ?_ | (refine tr_exit ?_; try simp only [ex_seq_exit, ex_block_exit, ex_seq, ↓reduceIte]))
                refine tr_cond rfl (fun ht => ?_) (fun hf => ?_)
                · repeat (first | refine tr_seq_k fun _ _ => ?_ | (refine tr_region ?_; simp only [go_sem, Nat.reduceEqDiff, Nat.reduceLT, ↓reduceIte]) | refine k_of (by assumption) ?_ | (refine tr_ret ?_; try simp only [ex_seq_ret, ex_block_ret]))
                  refine (hQ _ _ [iA (clr12 P x)] ?_ (fun m => ?_)).2 <;> simp only [go_sem, Nat.reduceEqDiff, ↓reduceIte, Tryz.f48, hr]
                · cases hf
            | true =>
              have hE0 : clrsE P l i = 0 := by rw [hE]; exact of_decide_eq_true h3
              repeat (first | refine tr_seq_k fun _ _ => ?_ | (refine tr_region ?_; simp only [go_sem, Nat.reduceEqDiff, Nat.reduceLT, ↓reduceIte, q2]) | refine k_of (by assumption) ?_)
              refine tr_cond rfl (fun ht => ?_) (fun hf => ?_)
              · cases ht
              · repeat (first | refine tr_seq_k fun _ _ => ?_ | (refine tr_region ?_; simp only [go_sem, Nat.reduceEqDiff, Nat.reduceLT, ↓reduceIte, h3]) | (refine tr_draw (id := 11) follows 10000 [6] [0, 1, 2, 3, 4, 5, 6, 7] (by kernel_rfl) ?_; simp only [go_sem, List.getElem?_toArray, reduceCtorEq, Nat.reduceEqDiff, Nat.reduceLT, Nat.reduceLeDiff, Nat.reduceAdd, ↓reduceIte, ix]) | (refine call_of (cC) ?_ ?_; (first | rfl | simp only [go_sem, reduceCtorEq, Nat.reduceEqDiff, Nat.reduceLT, Nat.reduceLeDiff, Nat.reduceAdd, Nat.reduceMul, Nat.reduceSub, Nat.reduceBEq, ↓reduceIte, ix, h3, shut_col]); simp only [go_sem, Bool.true_or]) | refine k_of (by assumption) ?_ | (refine tr_exit ?_; try simp only [ex_seq_exit, ex_block_exit, ex_seq, ↓reduceIte]))
                refine tr_cond rfl (fun ht => ?_) (fun hf => ?_)
                · cases ht
                · repeat (first | (refine tr_region ?_; simp only [go_sem, Nat.reduceEqDiff, Nat.reduceLT, ↓reduceIte, ws]) | refine k_of (by assumption) ?_ | (refine tr_skip ?_; try simp only [ex_seq, ex_block]))
                  exact hK (i + 1) _ _ ⟨hkl, hn hE0⟩ ⟨⟨rfl, rfl, trivial⟩, Keep.refl _, rfl, rfl, Nat.le_refl _, Nat.le_refl _⟩ (by omega)
      · cases hf
  · have q1 : decide ((k : Int) < (l.length : Nat)) = false := decide_eq_false (by omega)
    have hr : R = 0 := by rw [e, firstE_none fun j hj => hp j (by omega)]
    repeat (first | refine tr_seq_k fun _ _ => ?_ | (refine tr_region ?_; simp only [go_sem, List.getElem?_toArray, reduceCtorEq, Nat.reduceEqDiff, Nat.reduceLT, ↓reduceIte, q1]) | refine k_of (by assumption) ?_)
    refine tr_cond rfl (fun ht => ?_) (fun hf => ?_)
    · cases ht
    · repeat (first | refine tr_seq_k fun _ _ => ?_ | (refine tr_region ?_; simp only [go_sem, Nat.reduceEqDiff, Nat.reduceLT, ↓reduceIte]) | refine k_of (by assumption) ?_ | (refine tr_exit ?_; try simp only [ex_seq_exit, ex_block_exit, ex_seq, ↓reduceIte]) | (refine tr_ret ?_; try simp only [ex_seq_ret, ex_block_ret]))
      refine (hQ _ _ [iA 0] ?_ (fun m => ?_)).2 <;> simp only [go_sem, Nat.reduceEqDiff, ↓reduceIte, Tryz.f48, hr]
theorem clause_does (p : Pol) (h : Atm) (b : List Atm) (ex : Bool) (hp : Pol12 p) (hl : b.length ≤ 1000000) : Does Tryz.prog 49 [poA p, atA h, .c (slC atC ex b)] (fun m => (iA (clause12 p h b), m)) := by
  have e : clause12 p h b = if atom12 p h ≠ 0 then atom12 p h else if (b.length : Int) > 6 then 4 else firstE (fun i => atom12 p (aAt b i)) b.length := rfl
  have cA := atom12_does p h hp
  generalize clause12 p h b = R at *
  cases d0 : decide (atom12 p h = 0) with
  | false =>
    have hr : R = atom12 p h := by rw [e, if_pos (of_decide_eq_false d0)]
    refine does_of' Tryz.func49 rfl (by kernel_rfl) rfl Tryz.ntmps49 rfl rfl fun Q hQ => ?_
    repeat (first | refine tr_seq_k fun _ _ => ?_ | (refine tr_region ?_; simp only [go_sem, reduceCtorEq, Nat.reduceEqDiff, Nat.reduceLT, Nat.reduceLeDiff, Nat.reduceAdd, ↓reduceIte, d0]) | (refine call_of (cA) ?_ ?_; (first | rfl | simp only [go_sem, reduceCtorEq, Nat.reduceEqDiff, Nat.reduceLT, Nat.reduceLeDiff, Nat.reduceAdd, Nat.reduceMul, Nat.reduceSub, Nat.reduceBEq, ↓reduceIte, d0, shut_col]); simp only [go_sem]) | refine k_of (by assumption) ?_)
    refine tr_cond rfl (fun ht => ?_) (fun hf => ?_)
    · repeat (first | refine tr_seq_k fun _ _ => ?_ | (refine tr_region ?_; simp only [go_sem, reduceCtorEq, Nat.reduceEqDiff, Nat.reduceLT, ↓reduceIte]) | refine k_of (by assumption) ?_ | (refine tr_ret ?_; try simp only [ex_seq_ret]))
      refine (hQ _ _ [iA (atom12 p h)] ?_ (fun m => ?_)).2 <;> simp only [go_sem, reduceCtorEq, Nat.reduceEqDiff, ↓reduceIte, Tryz.f49, hr]
    · cases hf
  | true =>
    rw [if_neg (fun hc => hc (of_decide_eq_true d0))] at e
    cases d2 : decide ((b.length : Int) > 6) with
    | true =>
      have hr : R = 4 := by rw [e, if_pos (of_decide_eq_true d2)]
      refine does_of' Tryz.func49 rfl (by kernel_rfl) rfl Tryz.ntmps49 rfl rfl fun Q hQ => ?_
      repeat (first | refine tr_seq_k fun _ _ => ?_ | (refine tr_region ?_; simp only [go_sem, reduceCtorEq, Nat.reduceEqDiff, Nat.reduceLT, Nat.reduceLeDiff, Nat.reduceAdd, ↓reduceIte, d0]) | (refine call_of (cA) ?_ ?_; (first | rfl | simp only [go_sem, reduceCtorEq, Nat.reduceEqDiff, Nat.reduceLT, Nat.reduceLeDiff, Nat.reduceAdd, Nat.reduceMul, Nat.reduceSub, Nat.reduceBEq, ↓reduceIte, d0, shut_col]); simp only [go_sem]) | refine k_of (by assumption) ?_)
      refine tr_cond rfl (fun ht => ?_) (fun hf => ?_)
      · cases ht
      · repeat (first | refine tr_seq_k fun _ _ => ?_ | (refine tr_region ?_; simp only [go_sem, List.getElem?_toArray, reduceCtorEq, Nat.reduceEqDiff, Nat.reduceLT, ↓reduceIte, d2]) | refine k_of (by assumption) ?_ | (refine tr_skip ?_; try simp only [ex_seq]))
        refine tr_cond rfl (fun ht => ?_) (fun hf => ?_)
        · repeat (first | refine tr_seq_k fun _ _ => ?_ | (refine tr_region ?_; simp only [go_sem, reduceCtorEq, Nat.reduceEqDiff, Nat.reduceLT, ↓reduceIte]) | refine k_of (by assumption) ?_ | (refine tr_ret ?_; try simp only [ex_seq_ret]))
          refine (hQ _ _ [iA 4] ?_ (fun m => ?_)).2 <;> simp only [go_sem, reduceCtorEq, Nat.reduceEqDiff, ↓reduceIte, Tryz.f49, hr]
        · cases hf
    | false =>
      rw [if_neg (of_decide_eq_false d2)] at e
      refine does_of' Tryz.func49 rfl (by kernel_rfl) rfl Tryz.ntmps49 rfl rfl fun Q hQ => ?_
      repeat (first | refine tr_seq_k fun _ _ => ?_ | (refine tr_region ?_; simp only [go_sem, reduceCtorEq, Nat.reduceEqDiff, Nat.reduceLT, Nat.reduceLeDiff, Nat.reduceAdd, ↓reduceIte, d0]) | (refine call_of (cA) ?_ ?_; (first | rfl | simp only [go_sem, reduceCtorEq, Nat.reduceEqDiff, Nat.reduceLT, Nat.reduceLeDiff, Nat.reduceAdd, Nat.reduceMul, Nat.reduceSub, Nat.reduceBEq, ↓reduceIte, d0, shut_col]); simp only [go_sem]) | refine k_of (by assumption) ?_)
      refine tr_cond rfl (fun ht => ?_) (fun hf => ?_)
      · cases ht
      · repeat (first | refine tr_seq_k fun _ _ => ?_ | (refine tr_region ?_; simp only [go_sem, List.getElem?_toArray, reduceCtorEq, Nat.reduceEqDiff, Nat.reduceLT, ↓reduceIte, d2]) | refine k_of (by assumption) ?_ | (refine tr_skip ?_; try simp only [ex_seq]))
        refine tr_cond rfl (fun ht => ?_) (fun hf => ?_)
        · cases ht
        · repeat (first | refine tr_seq_k fun _ _ => ?_ | (refine tr_region ?_; simp only [go_sem, reduceCtorEq, Nat.reduceEqDiff, Nat.reduceLT, ↓reduceIte]) | refine k_of (by assumption) ?_ | refine tr_block ?_ | (refine tr_skip ?_; try simp only [ex_seq]))
          refine tr_loop_k (σ := Nat) (fun k => [(2, .c (slC atC ex b)), (3, .ptr 0 0), (8, iA k)]) (fun _ => ⟨[⟨false, [.c (slC stC p.e1 p.prin), .c (slC prC p.e2 p.preds), .c (slC clC p.e3 p.clears), iA p.quota, iA p.budget, .c (slC ruC p.e4 p.rules), .c (slC grC p.e5 p.grants)]⟩, ⟨false, ([.c (.v (.string h.says)), .c (.v (.string h.pred)), .c (.v (.int .i64 h.n)), .c (.v (.bool h.a0.v)), .c (.v (.string h.a0.name)), .c (.v (.bool h.a1.v)), .c (.v (.string h.a1.name)), .c (.v (.bool h.a2.v)), .c (.v (.string h.a2.name)), .c (.v (.bool h.a3.v)), .c (.v (.string h.a3.name))] : List AV)⟩], []⟩) (fun k => k ≤ b.length ∧ ∀ j, j < k → atom12 p (aAt b j) = 0) (fun k => b.length - k) 0 ⟨Nat.zero_le _, fun _ h => absurd h (Nat.not_lt_zero _)⟩ ⟨rfl, rfl, rfl, trivial⟩ rfl ?_
          rintro k ⟨hk, hpk⟩ K hK
          by_cases hkl : k < b.length
          · have q1 : decide ((k : Int) < (b.length : Nat)) = true := decide_eq_true (by omega)
            have ix := idxA12 (ex := ex) hkl
            have ws := wrap_succ (show k ≤ 1000000000 by omega)
            have hh := firstE_hit (f := fun i => atom12 p (aAt b i)) hpk hkl
            have hn := zero_next (f := fun i => atom12 p (aAt b i)) hpk
            have hE : aAt b k = b[k] := by unfold aAt; rw [at_get hkl]
            (try dsimp only at hh hn)
            rw [hE] at hh hn
            generalize b[k] = x at *
            have cX := atom12_does p x hp
            cases h1 : decide (atom12 p x = 0) with
            | false =>
              have hr : R = atom12 p x := by rw [e, hh (of_decide_eq_false h1)]
              repeat (first | refine tr_seq_k fun _ _ => ?_ | (refine tr_region ?_; simp only [go_sem, List.getElem?_toArray, Nat.reduceEqDiff, Nat.reduceLT, ↓reduceIte, q1]) | refine k_of (by assumption) ?_)
              refine tr_cond rfl (fun ht => ?_) (fun hf => ?_)
              · repeat (first | refine tr_seq_k fun _ _ => ?_ | (refine tr_region ?_; simp only [go_sem, Nat.reduceEqDiff, Nat.reduceLT, ↓reduceIte, h1]) | (refine tr_draw (id := 9) follows 10000 [5] [0, 1, 2, 3, 4, 5, 6] (by kernel_rfl) ?_; simp only [go_sem, List.getElem?_toArray, Nat.reduceEqDiff, Nat.reduceLT, Nat.reduceLeDiff, Nat.reduceAdd, ↓reduceIte, ix, atC]) | (refine call_of (cX) ?_ ?_; (first | rfl | simp only [go_sem, reduceCtorEq, Nat.reduceEqDiff, Nat.reduceLT, Nat.reduceLeDiff, Nat.reduceAdd, Nat.reduceMul, Nat.reduceSub, Nat.reduceBEq, ↓reduceIte, ix, atC, h1, shut_col]); simp only [go_sem, Bool.true_or]) | refine k_of (by assumption) ?_ | refine tr_block ?_ | (refine tr_skip ?_; try simp only [ex_seq]))
                refine tr_cond rfl (fun ht => ?_) (fun hf => ?_)
                · repeat (first | refine tr_seq_k fun _ _ => ?_ | (refine tr_region ?_; simp only [go_sem, Nat.reduceEqDiff, Nat.reduceLT, ↓reduceIte]) | refine k_of (by assumption) ?_ | (refine tr_ret ?_; try simp only [ex_seq_ret, ex_block_ret]))
                  refine (hQ _ _ [iA (atom12 p x)] ?_ (fun m => ?_)).2 <;> simp only [go_sem, Nat.reduceEqDiff, ↓reduceIte, Tryz.f49, hr]
                · cases hf
              · cases hf
            | true =>
              repeat (first | refine tr_seq_k fun _ _ => ?_ | (refine tr_region ?_; simp only [go_sem, List.getElem?_toArray, Nat.reduceEqDiff, Nat.reduceLT, ↓reduceIte, q1]) | refine k_of (by assumption) ?_)
              refine tr_cond rfl (fun ht => ?_) (fun hf => ?_)
              · repeat (first | refine tr_seq_k fun _ _ => ?_ | (refine tr_region ?_; simp only [go_sem, Nat.reduceEqDiff, Nat.reduceLT, ↓reduceIte, h1]) | (refine tr_draw (id := 9) follows 10000 [5] [0, 1, 2, 3, 4, 5, 6] (by kernel_rfl) ?_; simp only [go_sem, List.getElem?_toArray, Nat.reduceEqDiff, Nat.reduceLT, Nat.reduceLeDiff, Nat.reduceAdd, ↓reduceIte, ix, atC]) | (refine call_of (cX) ?_ ?_; (first | rfl | simp only [go_sem, reduceCtorEq, Nat.reduceEqDiff, Nat.reduceLT, Nat.reduceLeDiff, Nat.reduceAdd, Nat.reduceMul, Nat.reduceSub, Nat.reduceBEq, ↓reduceIte, ix, atC, h1, shut_col]); simp only [go_sem, Bool.true_or]) | refine k_of (by assumption) ?_ | refine tr_block ?_ | (refine tr_skip ?_; try simp only [ex_seq]))
                refine tr_cond rfl (fun ht => ?_) (fun hf => ?_)
                · cases ht
                · repeat (first | (refine tr_region ?_; simp only [go_sem, Nat.reduceEqDiff, Nat.reduceLT, ↓reduceIte, ws]) | refine k_of (by assumption) ?_ | (refine tr_skip ?_; try simp only [ex_seq, ex_block]))
                  exact hK (k + 1) _ _ ⟨hkl, hn (of_decide_eq_true h1)⟩ ⟨⟨rfl, rfl, rfl, trivial⟩, Keep.refl _, rfl, rfl, Nat.le_refl _, Nat.le_refl _⟩ (by omega)
              · cases hf
          · have q1 : decide ((k : Int) < (b.length : Nat)) = false := decide_eq_false (by omega)
            have hr : R = 0 := by rw [e, firstE_none fun j hj => hpk j (by omega)]
            repeat (first | refine tr_seq_k fun _ _ => ?_ | (refine tr_region ?_; simp only [go_sem, List.getElem?_toArray, Nat.reduceEqDiff, Nat.reduceLT, ↓reduceIte, q1]) | refine k_of (by assumption) ?_)
            refine tr_cond rfl (fun ht => ?_) (fun hf => ?_)
            · cases ht
            · repeat (first | refine tr_seq_k fun _ _ => ?_ | (refine tr_region ?_; simp only [go_sem, Nat.reduceEqDiff, Nat.reduceLT, ↓reduceIte]) | refine k_of (by assumption) ?_ | (refine tr_exit ?_; try simp only [ex_seq_exit, ex_block_exit, ex_seq, ↓reduceIte]) | (refine tr_ret ?_; try simp only [ex_seq_ret, ex_block_ret]))
              refine (hQ _ _ [iA 0] ?_ (fun m => ?_)).2 <;> simp only [go_sem, Nat.reduceEqDiff, ↓reduceIte, Tryz.f49, hr]
end Go.Proofs.YtinbfakpjnnagaaGreatDoor
namespace Go.Proofs.YtinbfakpjnnagaaGreatDoor
open Go.Vs Go.Vs.Ab
set_option maxRecDepth 100000
set_option maxHeartbeats 4000000
theorem arrCp (a : Atm) (r : List CV) {k : Nat} (h : k < 4) : aIndexAddr Tryz.prog 31 (.cptr (.v (.bool a.a0.v) :: .v (.string a.a0.name) :: .v (.bool a.a1.v) :: .v (.string a.a1.name) :: .v (.bool a.a2.v) :: .v (.string a.a2.name) :: .v (.bool a.a3.v) :: .v (.string a.a3.name) :: r)) (.c (.v (.int .i64 (k : Int)))) = some (.cptr (.v (.bool (a.arg k).v) :: .v (.string (a.arg k).name) :: List.drop (k * 2 + 2) (([.v (.bool a.a0.v), .v (.string a.a0.name), .v (.bool a.a1.v), .v (.string a.a1.name), .v (.bool a.a2.v), .v (.string a.a2.name), .v (.bool a.a3.v), .v (.string a.a3.name)] : List CV) ++ r))) := by
  obtain rfl | rfl | rfl | rfl : k = 0 ∨ k = 1 ∨ k = 2 ∨ k = 3 := by omega
  all_goals
    simp only [aIndexAddr, intV, Tryz.underlying31, sz30]
    rfl
theorem okay_of {a : Atm} (h : AtSz a) (h0 : 0 ≤ a.n) (h4 : a.n ≤ 4) : Atm.okay a := by
  obtain ⟨h1, h2, h3⟩ := h
  have q : ∀ k, (a.arg k).name.size ≤ maxLen := fun k => Nat.le_trans (h3 k) (by decide)
  refine ⟨Nat.le_trans h1 (by decide), Nat.le_trans h2 (by decide), ?_, q 0, q 1, q 2, q 3⟩
  have hmin : IntKind.i64.min = -9223372036854775808 := rfl
  have hmax : IntKind.i64.max = 9223372036854775807 := rfl
  simp only [Lit.wf, Bool.and_eq_true, decide_eq_true_eq]
  omega
def inK (v : ByteArray) (b : List Atm) (k n : Nat) : Bool := inB v (b.take k) || (List.range n).any fun m => decide ((aAt b k).arg m = ⟨true, v⟩)
theorem inK_next (v : ByteArray) (b : List Atm) (k n : Nat) : inK v b k (n + 1) = (inK v b k n || decide ((aAt b k).arg n = ⟨true, v⟩)) := by
  unfold inK
  rw [List.range_succ, List.any_append, Bool.or_assoc]
  simp
theorem inK_row (v : ByteArray) {b : List Atm} {k : Nat} (hk : k < b.length) : inK v b k (aAt b k).count = inK v b (k + 1) 0 := by
  unfold inK inB
  rw [List.take_succ_eq_append_getElem hk, List.any_append]
  unfold aAt
  rw [at_get hk]
  simp
theorem inK_all (v : ByteArray) (b : List Atm) : inK v b b.length 0 = inB v b := by
  unfold inK
  rw [List.take_of_length_le (Nat.le_refl _)]
  simp
theorem ranged_does (h : Atm) (b : List Atm) (ex : Bool) (ho : Atm.okay h) (hb : ∀ a ∈ b, 0 ≤ a.n ∧ a.n ≤ 4) (hl : b.length ≤ 1000000) : Does Tryz.prog 50 [atA h, .c (slC atC ex b)] (fun m => (bA (ranged12 h b), m)) := by
  have e : ranged12 h b = (pnames h true).all fun v => inB v b := rfl
  have c1 := vars_does ho
  have hVl : (pnames h true).length ≤ 4 := Nat.le_trans (pnames_len h true h.count) h.count_le
  generalize ranged12 h b = R at *
  generalize pnames h true = V at *
  refine does_of' Tryz.func50 rfl (by kernel_rfl) rfl Tryz.ntmps50 rfl rfl fun Q hQ => ?_
  repeat (first | refine tr_seq_k fun _ _ => ?_ | (refine tr_region ?_; simp only [go_sem, reduceCtorEq, Nat.reduceEqDiff, Nat.reduceLT, Nat.reduceLeDiff, Nat.reduceAdd, ↓reduceIte]) | (refine call_of (c1) ?_ ?_; (first | rfl | simp only [go_sem, reduceCtorEq, Nat.reduceEqDiff, Nat.reduceLT, Nat.reduceLeDiff, Nat.reduceAdd, Nat.reduceMul, Nat.reduceSub, Nat.reduceBEq, ↓reduceIte, shut_col]); simp only [go_sem]) | refine k_of (by assumption) ?_ | refine tr_block ?_)
  refine tr_loop_k (σ := Nat) (fun i => [(1, .c (slC atC ex b)), (5, slS false V), (6, iA i)]) (fun _ => ⟨[⟨false, ([.c (.v (.string h.says)), .c (.v (.string h.pred)), .c (.v (.int .i64 h.n)), .c (.v (.bool h.a0.v)), .c (.v (.string h.a0.name)), .c (.v (.bool h.a1.v)), .c (.v (.string h.a1.name)), .c (.v (.bool h.a2.v)), .c (.v (.string h.a2.name)), .c (.v (.bool h.a3.v)), .c (.v (.string h.a3.name))] : List AV)⟩], []⟩) (fun i => i ≤ V.length ∧ ∀ (j : Nat) (hj : j < V.length), j < i → inB V[j] b = true) (fun i => V.length - i) 0 ⟨Nat.zero_le _, fun _ _ h => absurd h (Nat.not_lt_zero _)⟩ ⟨rfl, rfl, rfl, trivial⟩ rfl ?_
  rintro i ⟨hi, hpi⟩ K hK
  by_cases hil : i < V.length
  · have q1 : decide ((i : Int) < (V.length : Nat)) = true := decide_eq_true (by omega)
    have ixV := idxS (ex := false) hil
    have ws := wrap_succ (show i ≤ 1000000000 by omega)
    have hnext : inB V[i] b = true → ∀ (j : Nat) (hj : j < V.length), j < i + 1 → inB V[j] b = true := fun h j hj hji => by
      by_cases ej : j = i
      · subst ej; exact h
      · exact hpi j hj (by omega)
    have hbad : inB V[i] b = false → R = false := fun h => by
      rw [e, List.all_eq_false]
      exact ⟨V[i], List.getElem_mem hil, by rw [h]; decide⟩
    generalize V[i] = v at *
    repeat (first | refine tr_seq_k fun _ _ => ?_ | (refine tr_region ?_; simp only [go_sem, List.getElem?_toArray, Nat.reduceEqDiff, Nat.reduceLT, ↓reduceIte, q1]) | refine k_of (by assumption) ?_)
    refine tr_cond rfl (fun ht => ?_) (fun hf => ?_)
    · repeat (first | refine tr_seq_k fun _ _ => ?_ | (refine tr_region ?_; simp only [go_sem, Nat.reduceEqDiff, Nat.reduceLT, ↓reduceIte]) | refine k_of (by assumption) ?_ | refine tr_block ?_ | (refine tr_skip ?_; try simp only [ex_seq]))
      refine tr_loop_k (σ := Nat) (fun k => [(1, .c (slC atC ex b)), (5, slS false V), (6, iA i), (7, bA (inK v b k 0)), (8, iA k)]) (fun _ => ⟨[⟨false, ([.c (.v (.string h.says)), .c (.v (.string h.pred)), .c (.v (.int .i64 h.n)), .c (.v (.bool h.a0.v)), .c (.v (.string h.a0.name)), .c (.v (.bool h.a1.v)), .c (.v (.string h.a1.name)), .c (.v (.bool h.a2.v)), .c (.v (.string h.a2.name)), .c (.v (.bool h.a3.v)), .c (.v (.string h.a3.name))] : List AV)⟩], []⟩) (fun k => k ≤ b.length) (fun k => b.length - k) 0 (Nat.zero_le _) ⟨rfl, rfl, rfl, rfl, rfl, trivial⟩ rfl ?_
      rintro k hk K2 hK2
      by_cases hkl : k < b.length
      · have q2 : decide ((k : Int) < (b.length : Nat)) = true := decide_eq_true (by omega)
        have ix := idxA12 (ex := ex) hkl
        have ws2 := wrap_succ (show k ≤ 1000000000 by omega)
        have hrow := inK_row v hkl
        have hN := inK_next v b k
        have hE : aAt b k = b[k] := by unfold aAt; rw [at_get hkl]
        obtain ⟨hb0, hb4⟩ := hb _ (List.getElem_mem hkl)
        rw [hE] at hrow hN
        clear hE
        generalize b[k] = x at *
        have hcn := count_n (a := x) hb0 hb4
        repeat (first | refine tr_seq_k fun _ _ => ?_ | (refine tr_region ?_; simp only [go_sem, List.getElem?_toArray, Nat.reduceEqDiff, Nat.reduceLT, ↓reduceIte, q2]) | refine k_of (by assumption) ?_)
        refine tr_cond rfl (fun ht => ?_) (fun hf => ?_)
        · repeat (first | refine tr_seq_k fun _ _ => ?_ | (refine tr_region ?_; simp only [go_sem, Nat.reduceEqDiff, Nat.reduceLT, ↓reduceIte]) | refine k_of (by assumption) ?_ | refine tr_block ?_ | (refine tr_skip ?_; try simp only [ex_seq]))
          refine tr_loop_k (σ := Nat) (fun n => [(1, .c (slC atC ex b)), (5, slS false V), (6, iA i), (7, bA (inK v b k n)), (8, iA k), (9, iA n)]) (fun _ => ⟨[⟨false, ([.c (.v (.string h.says)), .c (.v (.string h.pred)), .c (.v (.int .i64 h.n)), .c (.v (.bool h.a0.v)), .c (.v (.string h.a0.name)), .c (.v (.bool h.a1.v)), .c (.v (.string h.a1.name)), .c (.v (.bool h.a2.v)), .c (.v (.string h.a2.name)), .c (.v (.bool h.a3.v)), .c (.v (.string h.a3.name))] : List AV)⟩], []⟩) (fun n => n ≤ x.count) (fun n => x.count - n) 0 (Nat.zero_le _) ⟨rfl, rfl, rfl, rfl, rfl, rfl, trivial⟩ rfl ?_
          rintro n hn K3 hK3
          by_cases hnl : n < x.count
          · have q3 : decide ((n : Int) < x.n) = true := decide_eq_true (by omega)
            have hn4 : n < 4 := by omega
            have ws3 := wrap_succ (show n ≤ 1000000000 by omega)
            have hNn := hN n
            have eT := fun y z => bin_eqT y z (x.arg n) ⟨true, v⟩
            simp only [pv_bind] at eT
            cases g : inK v b k n with
            | true =>
              have hg : inK v b k (n + 1) = true := by rw [hNn, g]; rfl
              repeat (first | refine tr_seq_k fun _ _ => ?_ | (refine tr_region ?_; simp only [go_sem, List.getElem?_toArray, reduceCtorEq, Nat.reduceEqDiff, Nat.reduceLT, ↓reduceIte, ix, atC, q3]) | refine k_of (by assumption) ?_)
              refine tr_cond rfl (fun ht => ?_) (fun hf => ?_)
              · repeat (first | refine tr_seq_k fun _ _ => ?_ | (refine tr_region ?_; simp only [go_sem, Nat.reduceEqDiff, Nat.reduceLT, ↓reduceIte, ws3]) | (refine tr_drawC (id := 12) follows 10000 (by kernel_rfl) ?_; simp only [go_sem, List.getElem?_toArray, Nat.reduceEqDiff, Nat.reduceLT, ↓reduceIte]) | refine k_of (by assumption) ?_ | refine tr_block ?_ | (refine tr_skip ?_; try simp only [ex_seq]))
                exact hK3 (n + 1) _ _ hnl ⟨⟨rfl, rfl, rfl, by rw [hg]; rfl, rfl, rfl, trivial⟩, Keep.refl _, rfl, rfl, Nat.le_refl _, Nat.le_refl _⟩ (by omega)
              · cases hf
            | false =>
              cases g2 : decide (x.arg n = ⟨true, v⟩) with
              | true =>
                have hg : inK v b k (n + 1) = true := by rw [hNn, g2, Bool.or_true]
                simp only [g2] at eT
                repeat (first | refine tr_seq_k fun _ _ => ?_ | (refine tr_region ?_; simp only [go_sem, List.getElem?_toArray, reduceCtorEq, Nat.reduceEqDiff, Nat.reduceLT, ↓reduceIte, ix, atC, q3]) | refine k_of (by assumption) ?_)
                refine tr_cond rfl (fun ht => ?_) (fun hf => ?_)
                · repeat (first | refine tr_seq_k fun _ _ => ?_ | (refine tr_region ?_; simp only [go_sem, Nat.reduceEqDiff, Nat.reduceLT, ↓reduceIte, ws3]) | (refine tr_drawC (id := 12) follows 10000 (by kernel_rfl) ?_; simp only [go_sem, List.getElem?_toArray, reduceCtorEq, Nat.reduceEqDiff, Nat.reduceLT, Nat.reduceLeDiff, Nat.reduceAdd, ↓reduceIte, ix, atC, ixV, arrCp x _ hn4, eT]) | refine k_of (by assumption) ?_ | refine tr_block ?_ | (refine tr_skip ?_; try simp only [ex_seq]))
                  exact hK3 (n + 1) _ _ hnl ⟨⟨rfl, rfl, rfl, by rw [hg]; rfl, rfl, rfl, trivial⟩, Keep.refl _, rfl, rfl, Nat.le_refl _, Nat.le_refl _⟩ (by omega)
                · cases hf
              | false =>
                have hg : inK v b k (n + 1) = false := by rw [hNn, g, g2]; rfl
                simp only [g2] at eT
                repeat (first | refine tr_seq_k fun _ _ => ?_ | (refine tr_region ?_; simp only [go_sem, List.getElem?_toArray, reduceCtorEq, Nat.reduceEqDiff, Nat.reduceLT, ↓reduceIte, ix, atC, q3]) | refine k_of (by assumption) ?_)
                refine tr_cond rfl (fun ht => ?_) (fun hf => ?_)
                · repeat (first | refine tr_seq_k fun _ _ => ?_ | (refine tr_region ?_; simp only [go_sem, Nat.reduceEqDiff, Nat.reduceLT, ↓reduceIte, ws3]) | (refine tr_drawC (id := 12) follows 10000 (by kernel_rfl) ?_; simp only [go_sem, List.getElem?_toArray, reduceCtorEq, Nat.reduceEqDiff, Nat.reduceLT, Nat.reduceLeDiff, Nat.reduceAdd, ↓reduceIte, ix, atC, ixV, arrCp x _ hn4, eT]) | refine k_of (by assumption) ?_ | refine tr_block ?_ | (refine tr_skip ?_; try simp only [ex_seq]))
                  exact hK3 (n + 1) _ _ hnl ⟨⟨rfl, rfl, rfl, by rw [hg]; rfl, rfl, rfl, trivial⟩, Keep.refl _, rfl, rfl, Nat.le_refl _, Nat.le_refl _⟩ (by omega)
                · cases hf
          · have q3 : decide ((n : Int) < x.n) = false := decide_eq_false (by omega)
            obtain rfl : n = x.count := by omega
            repeat (first | refine tr_seq_k fun _ _ => ?_ | (refine tr_region ?_; simp only [go_sem, List.getElem?_toArray, reduceCtorEq, Nat.reduceEqDiff, Nat.reduceLT, ↓reduceIte, ix, atC, q3]) | refine k_of (by assumption) ?_)
            refine tr_cond rfl (fun ht => ?_) (fun hf => ?_)
            · cases ht
            · repeat (first | (refine tr_region ?_; simp only [go_sem, Nat.reduceEqDiff, Nat.reduceLT, ↓reduceIte, ws2]) | refine k_of (by assumption) ?_ | (refine tr_exit ?_; try simp only [ex_seq_exit, ex_block_exit, ex_seq, ex_block, ↓reduceIte]))
              exact hK2 (k + 1) _ _ hkl ⟨⟨rfl, rfl, rfl, by rw [hrow]; rfl, rfl, trivial⟩, Keep.refl _, rfl, rfl, Nat.le_refl _, Nat.le_refl _⟩ (by omega)
        · cases hf
      · have q2 : decide ((k : Int) < (b.length : Nat)) = false := decide_eq_false (by omega)
        obtain rfl : k = b.length := by omega
        rw [inK_all]
        cases g : inB v b with
        | false =>
          have hr := hbad g
          repeat (first | refine tr_seq_k fun _ _ => ?_ | (refine tr_region ?_; simp only [go_sem, List.getElem?_toArray, Nat.reduceEqDiff, Nat.reduceLT, ↓reduceIte, q2]) | refine k_of (by assumption) ?_)
          refine tr_cond rfl (fun ht => ?_) (fun hf => ?_)
          · cases ht
          · repeat (first | refine tr_seq_k fun _ _ => ?_ | (refine tr_region ?_; simp only [go_sem, Nat.reduceEqDiff, Nat.reduceLT, ↓reduceIte]) | refine k_of (by assumption) ?_ | (refine tr_exit ?_; try simp only [ex_seq_exit, ex_block_exit, ex_seq, ↓reduceIte]))
            refine tr_cond rfl (fun ht => ?_) (fun hf => ?_)
            · repeat (first | refine tr_seq_k fun _ _ => ?_ | (refine tr_region ?_; simp only [go_sem, Nat.reduceEqDiff, Nat.reduceLT, ↓reduceIte]) | refine k_of (by assumption) ?_ | (refine tr_ret ?_; try simp only [ex_seq_ret, ex_block_ret]))
              refine (hQ _ _ [bA false] ?_ (fun m => ?_)).2 <;> simp only [go_sem, Nat.reduceEqDiff, ↓reduceIte, Tryz.f50, hr]
            · cases hf
        | true =>
          repeat (first | refine tr_seq_k fun _ _ => ?_ | (refine tr_region ?_; simp only [go_sem, List.getElem?_toArray, Nat.reduceEqDiff, Nat.reduceLT, ↓reduceIte, q2]) | refine k_of (by assumption) ?_)
          refine tr_cond rfl (fun ht => ?_) (fun hf => ?_)
          · cases ht
          · repeat (first | refine tr_seq_k fun _ _ => ?_ | (refine tr_region ?_; simp only [go_sem, Nat.reduceEqDiff, Nat.reduceLT, ↓reduceIte]) | refine k_of (by assumption) ?_ | (refine tr_exit ?_; try simp only [ex_seq_exit, ex_block_exit, ex_seq, ↓reduceIte]))
            refine tr_cond rfl (fun ht => ?_) (fun hf => ?_)
            · cases ht
            · repeat (first | (refine tr_region ?_; simp only [go_sem, Nat.reduceEqDiff, Nat.reduceLT, ↓reduceIte, ws]) | refine k_of (by assumption) ?_ | (refine tr_skip ?_; try simp only [ex_seq, ex_block]))
              exact hK (i + 1) _ _ ⟨hil, hnext g⟩ ⟨⟨rfl, rfl, rfl, trivial⟩, Keep.refl _, rfl, rfl, Nat.le_refl _, Nat.le_refl _⟩ (by omega)
    · cases hf
  · have q1 : decide ((i : Int) < (V.length : Nat)) = false := decide_eq_false (by omega)
    have hr : R = true := by
      rw [e, List.all_eq_true]
      intro v hv
      obtain ⟨j, hj, rfl⟩ := List.mem_iff_getElem.1 hv
      exact hpi j hj (by omega)
    repeat (first | refine tr_seq_k fun _ _ => ?_ | (refine tr_region ?_; simp only [go_sem, List.getElem?_toArray, Nat.reduceEqDiff, Nat.reduceLT, ↓reduceIte, q1]) | refine k_of (by assumption) ?_)
    refine tr_cond rfl (fun ht => ?_) (fun hf => ?_)
    · cases ht
    · repeat (first | refine tr_seq_k fun _ _ => ?_ | (refine tr_region ?_; simp only [go_sem, Nat.reduceEqDiff, Nat.reduceLT, ↓reduceIte]) | refine k_of (by assumption) ?_ | (refine tr_exit ?_; try simp only [ex_seq_exit, ex_block_exit, ex_seq, ↓reduceIte]) | (refine tr_ret ?_; try simp only [ex_seq_ret, ex_block_ret]))
      refine (hQ _ _ [bA true] ?_ (fun m => ?_)).2 <;> simp only [go_sem, Nat.reduceEqDiff, ↓reduceIte, Tryz.f50, hr]
theorem check12_does (p : Pol) (hp : Pol12 p) (ho : ∀ r ∈ p.rules, AtSz r.head) : Does Tryz.prog 23 [poA p] (fun m => (iA (check12 p), m)) := by
  have e : check12 p = if head12 p ≠ 0 then head12 p else if long12 p = true then 4 else if firstE (ruleE p) p.rules.length ≠ 0 then firstE (ruleE p) p.rules.length else firstE (grtE p) p.grants.length := rfl
  have eh : head12 p = if prin12 p.prin ≠ 0 then prin12 p.prin else if pred12 p.preds ≠ 0 then pred12 p.preds else clrs12 p.prin p.clears := rfl
  have el : long12 p = (decide (p.quota < 0) || decide (p.quota > 1000) || decide (p.budget < 1) || decide (p.budget > 1048576) || decide ((p.rules.length : Int) > 64) || decide ((p.grants.length : Int) > 64) || decide ((p.rules.length : Int) + (p.grants.length : Int) > 64)) := rfl
  have c1 : Does Tryz.prog 46 [poA p] (fun m => (iA (prin12 p.prin), m)) := prins_does p.prin p.e1 _ _ _ _ _ _ hp.prin
  have c2 : Does Tryz.prog 47 [poA p] (fun m => (iA (pred12 p.preds), m)) := preds_does p.preds p.e2 _ _ _ _ _ _ hp.preds
  have c3 : Does Tryz.prog 48 [poA p] (fun m => (iA (clrs12 p.prin p.clears), m)) := clears_does p.prin p.e1 p.e3 _ _ _ _ _ p.clears hp.prin hp.clears hp.reads
  generalize check12 p = R at *
  generalize head12 p = H at *
  generalize long12 p = L at *
  generalize prin12 p.prin = x1 at *
  generalize pred12 p.preds = x2 at *
  generalize clrs12 p.prin p.clears = x3 at *
  cases h1 : decide (x1 = 0) with
  | false =>
    have h1' := of_decide_eq_false h1
    have hr : R = x1 := by rw [e, eh, if_pos h1', if_pos h1']
    refine does_of' Tryz.func23 rfl (by kernel_rfl) rfl Tryz.ntmps23 rfl rfl fun Q hQ => ?_
    repeat (first | refine tr_seq_k fun _ _ => ?_ | (refine tr_region ?_; simp only [go_sem, reduceCtorEq, Nat.reduceEqDiff, Nat.reduceLT, Nat.reduceLeDiff, Nat.reduceAdd, ↓reduceIte, h1]) | (refine call_of (c1) ?_ ?_; (first | rfl | simp only [go_sem, reduceCtorEq, Nat.reduceEqDiff, Nat.reduceLT, Nat.reduceLeDiff, Nat.reduceAdd, Nat.reduceMul, Nat.reduceSub, Nat.reduceBEq, ↓reduceIte, h1, shut_col]); simp only [go_sem]) | refine k_of (by assumption) ?_)
    refine tr_cond rfl (fun ht => ?_) (fun hf => ?_)
    · cases ht
    · repeat (first | refine tr_seq_k fun _ _ => ?_ | (refine tr_region ?_; simp only [go_sem, reduceCtorEq, Nat.reduceEqDiff, Nat.reduceLT, ↓reduceIte, h1]) | refine k_of (by assumption) ?_ | (refine tr_skip ?_; try simp only [ex_seq]))
      refine tr_cond rfl (fun ht => ?_) (fun hf => ?_)
      · cases ht
      · repeat (first | refine tr_seq_k fun _ _ => ?_ | (refine tr_region ?_; simp only [go_sem, reduceCtorEq, Nat.reduceEqDiff, Nat.reduceLT, ↓reduceIte, h1]) | refine k_of (by assumption) ?_ | (refine tr_skip ?_; try simp only [ex_seq]))
        refine tr_cond rfl (fun ht => ?_) (fun hf => ?_)
        · repeat (first | refine tr_seq_k fun _ _ => ?_ | (refine tr_region ?_; simp only [go_sem, reduceCtorEq, Nat.reduceEqDiff, Nat.reduceLT, ↓reduceIte]) | refine k_of (by assumption) ?_ | (refine tr_ret ?_; try simp only [ex_seq_ret]))
          refine (hQ _ _ [iA x1] ?_ (fun m => ?_)).2 <;> simp only [go_sem, reduceCtorEq, Nat.reduceEqDiff, ↓reduceIte, Tryz.f23, hr]
        · cases hf
  | true =>
    have h1' := of_decide_eq_true h1
    rw [if_neg (fun h => h h1')] at eh
    cases h2 : decide (x2 = 0) with
    | false =>
      have h2' := of_decide_eq_false h2
      have hr : R = x2 := by rw [e, eh, if_pos h2', if_pos h2']
      refine does_of' Tryz.func23 rfl (by kernel_rfl) rfl Tryz.ntmps23 rfl rfl fun Q hQ => ?_
      repeat (first | refine tr_seq_k fun _ _ => ?_ | (refine tr_region ?_; simp only [go_sem, reduceCtorEq, Nat.reduceEqDiff, Nat.reduceLT, Nat.reduceLeDiff, Nat.reduceAdd, ↓reduceIte, h1]) | (refine call_of (c1) ?_ ?_; (first | rfl | simp only [go_sem, reduceCtorEq, Nat.reduceEqDiff, Nat.reduceLT, Nat.reduceLeDiff, Nat.reduceAdd, Nat.reduceMul, Nat.reduceSub, Nat.reduceBEq, ↓reduceIte, h1, shut_col]); simp only [go_sem]) | refine k_of (by assumption) ?_)
      refine tr_cond rfl (fun ht => ?_) (fun hf => ?_)
      · repeat (first | refine tr_seq_k fun _ _ => ?_ | (refine tr_region ?_; simp only [go_sem, reduceCtorEq, Nat.reduceEqDiff, Nat.reduceLT, Nat.reduceLeDiff, Nat.reduceAdd, ↓reduceIte, h2]) | (refine call_of (c2) ?_ ?_; (first | rfl | simp only [go_sem, reduceCtorEq, Nat.reduceEqDiff, Nat.reduceLT, Nat.reduceLeDiff, Nat.reduceAdd, Nat.reduceMul, Nat.reduceSub, Nat.reduceBEq, ↓reduceIte, h2, shut_col]); simp only [go_sem]) | refine k_of (by assumption) ?_)
        refine tr_cond rfl (fun ht => ?_) (fun hf => ?_)
        · cases ht
        · repeat (first | refine tr_seq_k fun _ _ => ?_ | (refine tr_region ?_; simp only [go_sem, reduceCtorEq, Nat.reduceEqDiff, Nat.reduceLT, ↓reduceIte, h2]) | refine k_of (by assumption) ?_ | (refine tr_skip ?_; try simp only [ex_seq]))
          refine tr_cond rfl (fun ht => ?_) (fun hf => ?_)
          · repeat (first | refine tr_seq_k fun _ _ => ?_ | (refine tr_region ?_; simp only [go_sem, reduceCtorEq, Nat.reduceEqDiff, Nat.reduceLT, ↓reduceIte]) | refine k_of (by assumption) ?_ | (refine tr_ret ?_; try simp only [ex_seq_ret]))
            refine (hQ _ _ [iA x2] ?_ (fun m => ?_)).2 <;> simp only [go_sem, reduceCtorEq, Nat.reduceEqDiff, ↓reduceIte, Tryz.f23, hr]
          · cases hf
      · cases hf
    | true =>
      have h2' := of_decide_eq_true h2
      rw [if_neg (fun h => h h2')] at eh
      cases h3 : decide (x3 = 0) with
      | false =>
        have h3' := of_decide_eq_false h3
        have hr : R = x3 := by rw [e, eh, if_pos h3']
        refine does_of' Tryz.func23 rfl (by kernel_rfl) rfl Tryz.ntmps23 rfl rfl fun Q hQ => ?_
        repeat (first | refine tr_seq_k fun _ _ => ?_ | (refine tr_region ?_; simp only [go_sem, reduceCtorEq, Nat.reduceEqDiff, Nat.reduceLT, Nat.reduceLeDiff, Nat.reduceAdd, ↓reduceIte, h1]) | (refine call_of (c1) ?_ ?_; (first | rfl | simp only [go_sem, reduceCtorEq, Nat.reduceEqDiff, Nat.reduceLT, Nat.reduceLeDiff, Nat.reduceAdd, Nat.reduceMul, Nat.reduceSub, Nat.reduceBEq, ↓reduceIte, h1, shut_col]); simp only [go_sem]) | refine k_of (by assumption) ?_)
        refine tr_cond rfl (fun ht => ?_) (fun hf => ?_)
        · repeat (first | refine tr_seq_k fun _ _ => ?_ | (refine tr_region ?_; simp only [go_sem, reduceCtorEq, Nat.reduceEqDiff, Nat.reduceLT, Nat.reduceLeDiff, Nat.reduceAdd, ↓reduceIte, h2]) | (refine call_of (c2) ?_ ?_; (first | rfl | simp only [go_sem, reduceCtorEq, Nat.reduceEqDiff, Nat.reduceLT, Nat.reduceLeDiff, Nat.reduceAdd, Nat.reduceMul, Nat.reduceSub, Nat.reduceBEq, ↓reduceIte, h2, shut_col]); simp only [go_sem]) | refine k_of (by assumption) ?_)
          refine tr_cond rfl (fun ht => ?_) (fun hf => ?_)
          · repeat (first | refine tr_seq_k fun _ _ => ?_ | (refine tr_region ?_; simp only [go_sem, reduceCtorEq, Nat.reduceEqDiff, Nat.reduceLT, Nat.reduceLeDiff, Nat.reduceAdd, ↓reduceIte, h3]) | (refine call_of (c3) ?_ ?_; (first | rfl | simp only [go_sem, reduceCtorEq, Nat.reduceEqDiff, Nat.reduceLT, Nat.reduceLeDiff, Nat.reduceAdd, Nat.reduceMul, Nat.reduceSub, Nat.reduceBEq, ↓reduceIte, h3, shut_col]); simp only [go_sem]) | refine k_of (by assumption) ?_)
            refine tr_cond rfl (fun ht => ?_) (fun hf => ?_)
            · repeat (first | refine tr_seq_k fun _ _ => ?_ | (refine tr_region ?_; simp only [go_sem, reduceCtorEq, Nat.reduceEqDiff, Nat.reduceLT, ↓reduceIte]) | refine k_of (by assumption) ?_ | (refine tr_ret ?_; try simp only [ex_seq_ret]))
              refine (hQ _ _ [iA x3] ?_ (fun m => ?_)).2 <;> simp only [go_sem, reduceCtorEq, Nat.reduceEqDiff, ↓reduceIte, Tryz.f23, hr]
            · cases hf
          · cases hf
        · cases hf
      | true =>
        have h3' := of_decide_eq_true h3
        rw [eh, if_neg (fun h => h h3')] at e
        have wadd : IntKind.i64.wrap ((p.rules.length : Int) + (p.grants.length : Int)) = (p.rules.length : Int) + (p.grants.length : Int) := wrap_in (by have := hp.rules; have := hp.grants; omega)
        cases d0 : decide (p.quota < 0) with
        | true =>
          have hL : L = true := by rw [el, d0]; simp only [Bool.true_or]
          have hr : R = 4 := by rw [e, if_pos hL]
          refine does_of' Tryz.func23 rfl (by kernel_rfl) rfl Tryz.ntmps23 rfl rfl fun Q hQ => ?_
          repeat (first | refine tr_seq_k fun _ _ => ?_ | (refine tr_region ?_; simp only [go_sem, reduceCtorEq, Nat.reduceEqDiff, Nat.reduceLT, Nat.reduceLeDiff, Nat.reduceAdd, ↓reduceIte, h1]) | (refine call_of (c1) ?_ ?_; (first | rfl | simp only [go_sem, reduceCtorEq, Nat.reduceEqDiff, Nat.reduceLT, Nat.reduceLeDiff, Nat.reduceAdd, Nat.reduceMul, Nat.reduceSub, Nat.reduceBEq, ↓reduceIte, h1, shut_col]); simp only [go_sem]) | refine k_of (by assumption) ?_)
          refine tr_cond rfl (fun ht => ?_) (fun hf => ?_)
          · repeat (first | refine tr_seq_k fun _ _ => ?_ | (refine tr_region ?_; simp only [go_sem, reduceCtorEq, Nat.reduceEqDiff, Nat.reduceLT, Nat.reduceLeDiff, Nat.reduceAdd, ↓reduceIte, h2]) | (refine call_of (c2) ?_ ?_; (first | rfl | simp only [go_sem, reduceCtorEq, Nat.reduceEqDiff, Nat.reduceLT, Nat.reduceLeDiff, Nat.reduceAdd, Nat.reduceMul, Nat.reduceSub, Nat.reduceBEq, ↓reduceIte, h2, shut_col]); simp only [go_sem]) | refine k_of (by assumption) ?_)
            refine tr_cond rfl (fun ht => ?_) (fun hf => ?_)
            · repeat (first | refine tr_seq_k fun _ _ => ?_ | (refine tr_region ?_; simp only [go_sem, reduceCtorEq, Nat.reduceEqDiff, Nat.reduceLT, Nat.reduceLeDiff, Nat.reduceAdd, ↓reduceIte, h3]) | (refine call_of (c3) ?_ ?_; (first | rfl | simp only [go_sem, reduceCtorEq, Nat.reduceEqDiff, Nat.reduceLT, Nat.reduceLeDiff, Nat.reduceAdd, Nat.reduceMul, Nat.reduceSub, Nat.reduceBEq, ↓reduceIte, h3, shut_col]); simp only [go_sem]) | refine k_of (by assumption) ?_)
              refine tr_cond rfl (fun ht => ?_) (fun hf => ?_)
              · cases ht
              · repeat (first | refine tr_seq_k fun _ _ => ?_ | (refine tr_region ?_; simp only [go_sem, List.getElem?_toArray, reduceCtorEq, Nat.reduceEqDiff, Nat.reduceLT, ↓reduceIte, d0]) | refine k_of (by assumption) ?_ | (refine tr_skip ?_; try simp only [ex_seq]))
                refine tr_cond rfl (fun ht => ?_) (fun hf => ?_)
                · repeat (first | refine tr_seq_k fun _ _ => ?_ | (refine tr_region ?_; simp only [go_sem, reduceCtorEq, Nat.reduceEqDiff, Nat.reduceLT, ↓reduceIte]) | refine k_of (by assumption) ?_ | (refine tr_ret ?_; try simp only [ex_seq_ret]))
                  refine (hQ _ _ [iA 4] ?_ (fun m => ?_)).2 <;> simp only [go_sem, reduceCtorEq, Nat.reduceEqDiff, ↓reduceIte, Tryz.f23, hr]
                · cases hf
            · cases hf
          · cases hf
        | false =>
          cases d1 : decide (p.quota > 1000) with
          | true =>
            have hL : L = true := by rw [el, d0, d1]; simp only [Bool.true_or, Bool.false_or]
            have hr : R = 4 := by rw [e, if_pos hL]
            refine does_of' Tryz.func23 rfl (by kernel_rfl) rfl Tryz.ntmps23 rfl rfl fun Q hQ => ?_
            repeat (first | refine tr_seq_k fun _ _ => ?_ | (refine tr_region ?_; simp only [go_sem, reduceCtorEq, Nat.reduceEqDiff, Nat.reduceLT, Nat.reduceLeDiff, Nat.reduceAdd, ↓reduceIte, h1]) | (refine call_of (c1) ?_ ?_; (first | rfl | simp only [go_sem, reduceCtorEq, Nat.reduceEqDiff, Nat.reduceLT, Nat.reduceLeDiff, Nat.reduceAdd, Nat.reduceMul, Nat.reduceSub, Nat.reduceBEq, ↓reduceIte, h1, shut_col]); simp only [go_sem]) | refine k_of (by assumption) ?_)
            refine tr_cond rfl (fun ht => ?_) (fun hf => ?_)
            · repeat (first | refine tr_seq_k fun _ _ => ?_ | (refine tr_region ?_; simp only [go_sem, reduceCtorEq, Nat.reduceEqDiff, Nat.reduceLT, Nat.reduceLeDiff, Nat.reduceAdd, ↓reduceIte, h2]) | (refine call_of (c2) ?_ ?_; (first | rfl | simp only [go_sem, reduceCtorEq, Nat.reduceEqDiff, Nat.reduceLT, Nat.reduceLeDiff, Nat.reduceAdd, Nat.reduceMul, Nat.reduceSub, Nat.reduceBEq, ↓reduceIte, h2, shut_col]); simp only [go_sem]) | refine k_of (by assumption) ?_)
              refine tr_cond rfl (fun ht => ?_) (fun hf => ?_)
              · repeat (first | refine tr_seq_k fun _ _ => ?_ | (refine tr_region ?_; simp only [go_sem, reduceCtorEq, Nat.reduceEqDiff, Nat.reduceLT, Nat.reduceLeDiff, Nat.reduceAdd, ↓reduceIte, h3]) | (refine call_of (c3) ?_ ?_; (first | rfl | simp only [go_sem, reduceCtorEq, Nat.reduceEqDiff, Nat.reduceLT, Nat.reduceLeDiff, Nat.reduceAdd, Nat.reduceMul, Nat.reduceSub, Nat.reduceBEq, ↓reduceIte, h3, shut_col]); simp only [go_sem]) | refine k_of (by assumption) ?_)
                refine tr_cond rfl (fun ht => ?_) (fun hf => ?_)
                · cases ht
                · repeat (first | refine tr_seq_k fun _ _ => ?_ | (refine tr_region ?_; simp only [go_sem, List.getElem?_toArray, reduceCtorEq, Nat.reduceEqDiff, Nat.reduceLT, ↓reduceIte, d0, d1]) | refine k_of (by assumption) ?_ | (refine tr_skip ?_; try simp only [ex_seq]))
                  refine tr_cond rfl (fun ht => ?_) (fun hf => ?_)
                  · repeat (first | refine tr_seq_k fun _ _ => ?_ | (refine tr_region ?_; simp only [go_sem, reduceCtorEq, Nat.reduceEqDiff, Nat.reduceLT, ↓reduceIte]) | refine k_of (by assumption) ?_ | (refine tr_ret ?_; try simp only [ex_seq_ret]))
                    refine (hQ _ _ [iA 4] ?_ (fun m => ?_)).2 <;> simp only [go_sem, reduceCtorEq, Nat.reduceEqDiff, ↓reduceIte, Tryz.f23, hr]
                  · cases hf
              · cases hf
            · cases hf
          | false =>
            cases d2 : decide (p.budget < 1) with
            | true =>
              have hL : L = true := by rw [el, d0, d1, d2]; simp only [Bool.true_or, Bool.false_or]
              have hr : R = 4 := by rw [e, if_pos hL]
              refine does_of' Tryz.func23 rfl (by kernel_rfl) rfl Tryz.ntmps23 rfl rfl fun Q hQ => ?_
              repeat (first | refine tr_seq_k fun _ _ => ?_ | (refine tr_region ?_; simp only [go_sem, reduceCtorEq, Nat.reduceEqDiff, Nat.reduceLT, Nat.reduceLeDiff, Nat.reduceAdd, ↓reduceIte, h1]) | (refine call_of (c1) ?_ ?_; (first | rfl | simp only [go_sem, reduceCtorEq, Nat.reduceEqDiff, Nat.reduceLT, Nat.reduceLeDiff, Nat.reduceAdd, Nat.reduceMul, Nat.reduceSub, Nat.reduceBEq, ↓reduceIte, h1, shut_col]); simp only [go_sem]) | refine k_of (by assumption) ?_)
              refine tr_cond rfl (fun ht => ?_) (fun hf => ?_)
              · repeat (first | refine tr_seq_k fun _ _ => ?_ | (refine tr_region ?_; simp only [go_sem, reduceCtorEq, Nat.reduceEqDiff, Nat.reduceLT, Nat.reduceLeDiff, Nat.reduceAdd, ↓reduceIte, h2]) | (refine call_of (c2) ?_ ?_; (first | rfl | simp only [go_sem, reduceCtorEq, Nat.reduceEqDiff, Nat.reduceLT, Nat.reduceLeDiff, Nat.reduceAdd, Nat.reduceMul, Nat.reduceSub, Nat.reduceBEq, ↓reduceIte, h2, shut_col]); simp only [go_sem]) | refine k_of (by assumption) ?_)
                refine tr_cond rfl (fun ht => ?_) (fun hf => ?_)
                · repeat (first | refine tr_seq_k fun _ _ => ?_ | (refine tr_region ?_; simp only [go_sem, reduceCtorEq, Nat.reduceEqDiff, Nat.reduceLT, Nat.reduceLeDiff, Nat.reduceAdd, ↓reduceIte, h3]) | (refine call_of (c3) ?_ ?_; (first | rfl | simp only [go_sem, reduceCtorEq, Nat.reduceEqDiff, Nat.reduceLT, Nat.reduceLeDiff, Nat.reduceAdd, Nat.reduceMul, Nat.reduceSub, Nat.reduceBEq, ↓reduceIte, h3, shut_col]); simp only [go_sem]) | refine k_of (by assumption) ?_)
                  refine tr_cond rfl (fun ht => ?_) (fun hf => ?_)
                  · cases ht
                  · repeat (first | refine tr_seq_k fun _ _ => ?_ | (refine tr_region ?_; simp only [go_sem, List.getElem?_toArray, reduceCtorEq, Nat.reduceEqDiff, Nat.reduceLT, ↓reduceIte, d0, d1, d2]) | refine k_of (by assumption) ?_ | (refine tr_skip ?_; try simp only [ex_seq]))
                    refine tr_cond rfl (fun ht => ?_) (fun hf => ?_)
                    · repeat (first | refine tr_seq_k fun _ _ => ?_ | (refine tr_region ?_; simp only [go_sem, reduceCtorEq, Nat.reduceEqDiff, Nat.reduceLT, ↓reduceIte]) | refine k_of (by assumption) ?_ | (refine tr_ret ?_; try simp only [ex_seq_ret]))
                      refine (hQ _ _ [iA 4] ?_ (fun m => ?_)).2 <;> simp only [go_sem, reduceCtorEq, Nat.reduceEqDiff, ↓reduceIte, Tryz.f23, hr]
                    · cases hf
                · cases hf
              · cases hf
            | false =>
              cases d3 : decide (p.budget > 1048576) with
              | true =>
                have hL : L = true := by rw [el, d0, d1, d2, d3]; simp only [Bool.true_or, Bool.false_or]
                have hr : R = 4 := by rw [e, if_pos hL]
                refine does_of' Tryz.func23 rfl (by kernel_rfl) rfl Tryz.ntmps23 rfl rfl fun Q hQ => ?_
                repeat (first | refine tr_seq_k fun _ _ => ?_ | (refine tr_region ?_; simp only [go_sem, reduceCtorEq, Nat.reduceEqDiff, Nat.reduceLT, Nat.reduceLeDiff, Nat.reduceAdd, ↓reduceIte, h1]) | (refine call_of (c1) ?_ ?_; (first | rfl | simp only [go_sem, reduceCtorEq, Nat.reduceEqDiff, Nat.reduceLT, Nat.reduceLeDiff, Nat.reduceAdd, Nat.reduceMul, Nat.reduceSub, Nat.reduceBEq, ↓reduceIte, h1, shut_col]); simp only [go_sem]) | refine k_of (by assumption) ?_)
                refine tr_cond rfl (fun ht => ?_) (fun hf => ?_)
                · repeat (first | refine tr_seq_k fun _ _ => ?_ | (refine tr_region ?_; simp only [go_sem, reduceCtorEq, Nat.reduceEqDiff, Nat.reduceLT, Nat.reduceLeDiff, Nat.reduceAdd, ↓reduceIte, h2]) | (refine call_of (c2) ?_ ?_; (first | rfl | simp only [go_sem, reduceCtorEq, Nat.reduceEqDiff, Nat.reduceLT, Nat.reduceLeDiff, Nat.reduceAdd, Nat.reduceMul, Nat.reduceSub, Nat.reduceBEq, ↓reduceIte, h2, shut_col]); simp only [go_sem]) | refine k_of (by assumption) ?_)
                  refine tr_cond rfl (fun ht => ?_) (fun hf => ?_)
                  · repeat (first | refine tr_seq_k fun _ _ => ?_ | (refine tr_region ?_; simp only [go_sem, reduceCtorEq, Nat.reduceEqDiff, Nat.reduceLT, Nat.reduceLeDiff, Nat.reduceAdd, ↓reduceIte, h3]) | (refine call_of (c3) ?_ ?_; (first | rfl | simp only [go_sem, reduceCtorEq, Nat.reduceEqDiff, Nat.reduceLT, Nat.reduceLeDiff, Nat.reduceAdd, Nat.reduceMul, Nat.reduceSub, Nat.reduceBEq, ↓reduceIte, h3, shut_col]); simp only [go_sem]) | refine k_of (by assumption) ?_)
                    refine tr_cond rfl (fun ht => ?_) (fun hf => ?_)
                    · cases ht
                    · repeat (first | refine tr_seq_k fun _ _ => ?_ | (refine tr_region ?_; simp only [go_sem, List.getElem?_toArray, reduceCtorEq, Nat.reduceEqDiff, Nat.reduceLT, ↓reduceIte, d0, d1, d2, d3]) | refine k_of (by assumption) ?_ | (refine tr_skip ?_; try simp only [ex_seq]))
                      refine tr_cond rfl (fun ht => ?_) (fun hf => ?_)
                      · repeat (first | refine tr_seq_k fun _ _ => ?_ | (refine tr_region ?_; simp only [go_sem, reduceCtorEq, Nat.reduceEqDiff, Nat.reduceLT, ↓reduceIte]) | refine k_of (by assumption) ?_ | (refine tr_ret ?_; try simp only [ex_seq_ret]))
                        refine (hQ _ _ [iA 4] ?_ (fun m => ?_)).2 <;> simp only [go_sem, reduceCtorEq, Nat.reduceEqDiff, ↓reduceIte, Tryz.f23, hr]
                      · cases hf
                  · cases hf
                · cases hf
              | false =>
                cases d4 : decide ((p.rules.length : Int) > 64) with
                | true =>
                  have hL : L = true := by rw [el, d0, d1, d2, d3, d4]; simp only [Bool.true_or, Bool.false_or]
                  have hr : R = 4 := by rw [e, if_pos hL]
                  refine does_of' Tryz.func23 rfl (by kernel_rfl) rfl Tryz.ntmps23 rfl rfl fun Q hQ => ?_
                  repeat (first | refine tr_seq_k fun _ _ => ?_ | (refine tr_region ?_; simp only [go_sem, reduceCtorEq, Nat.reduceEqDiff, Nat.reduceLT, Nat.reduceLeDiff, Nat.reduceAdd, ↓reduceIte, h1]) | (refine call_of (c1) ?_ ?_; (first | rfl | simp only [go_sem, reduceCtorEq, Nat.reduceEqDiff, Nat.reduceLT, Nat.reduceLeDiff, Nat.reduceAdd, Nat.reduceMul, Nat.reduceSub, Nat.reduceBEq, ↓reduceIte, h1, shut_col]); simp only [go_sem]) | refine k_of (by assumption) ?_)
                  refine tr_cond rfl (fun ht => ?_) (fun hf => ?_)
                  · repeat (first | refine tr_seq_k fun _ _ => ?_ | (refine tr_region ?_; simp only [go_sem, reduceCtorEq, Nat.reduceEqDiff, Nat.reduceLT, Nat.reduceLeDiff, Nat.reduceAdd, ↓reduceIte, h2]) | (refine call_of (c2) ?_ ?_; (first | rfl | simp only [go_sem, reduceCtorEq, Nat.reduceEqDiff, Nat.reduceLT, Nat.reduceLeDiff, Nat.reduceAdd, Nat.reduceMul, Nat.reduceSub, Nat.reduceBEq, ↓reduceIte, h2, shut_col]); simp only [go_sem]) | refine k_of (by assumption) ?_)
                    refine tr_cond rfl (fun ht => ?_) (fun hf => ?_)
                    · repeat (first | refine tr_seq_k fun _ _ => ?_ | (refine tr_region ?_; simp only [go_sem, reduceCtorEq, Nat.reduceEqDiff, Nat.reduceLT, Nat.reduceLeDiff, Nat.reduceAdd, ↓reduceIte, h3]) | (refine call_of (c3) ?_ ?_; (first | rfl | simp only [go_sem, reduceCtorEq, Nat.reduceEqDiff, Nat.reduceLT, Nat.reduceLeDiff, Nat.reduceAdd, Nat.reduceMul, Nat.reduceSub, Nat.reduceBEq, ↓reduceIte, h3, shut_col]); simp only [go_sem]) | refine k_of (by assumption) ?_)
                      refine tr_cond rfl (fun ht => ?_) (fun hf => ?_)
                      · cases ht
                      · repeat (first | refine tr_seq_k fun _ _ => ?_ | (refine tr_region ?_; simp only [go_sem, List.getElem?_toArray, reduceCtorEq, Nat.reduceEqDiff, Nat.reduceLT, ↓reduceIte, d0, d1, d2, d3, d4]) | refine k_of (by assumption) ?_ | (refine tr_skip ?_; try simp only [ex_seq]))
                        refine tr_cond rfl (fun ht => ?_) (fun hf => ?_)
                        · repeat (first | refine tr_seq_k fun _ _ => ?_ | (refine tr_region ?_; simp only [go_sem, reduceCtorEq, Nat.reduceEqDiff, Nat.reduceLT, ↓reduceIte]) | refine k_of (by assumption) ?_ | (refine tr_ret ?_; try simp only [ex_seq_ret]))
                          refine (hQ _ _ [iA 4] ?_ (fun m => ?_)).2 <;> simp only [go_sem, reduceCtorEq, Nat.reduceEqDiff, ↓reduceIte, Tryz.f23, hr]
                        · cases hf
                    · cases hf
                  · cases hf
                | false =>
                  cases d5 : decide ((p.grants.length : Int) > 64) with
                  | true =>
                    have hL : L = true := by rw [el, d0, d1, d2, d3, d4, d5]; simp only [Bool.true_or, Bool.false_or]
                    have hr : R = 4 := by rw [e, if_pos hL]
                    refine does_of' Tryz.func23 rfl (by kernel_rfl) rfl Tryz.ntmps23 rfl rfl fun Q hQ => ?_
                    repeat (first | refine tr_seq_k fun _ _ => ?_ | (refine tr_region ?_; simp only [go_sem, reduceCtorEq, Nat.reduceEqDiff, Nat.reduceLT, Nat.reduceLeDiff, Nat.reduceAdd, ↓reduceIte, h1]) | (refine call_of (c1) ?_ ?_; (first | rfl | simp only [go_sem, reduceCtorEq, Nat.reduceEqDiff, Nat.reduceLT, Nat.reduceLeDiff, Nat.reduceAdd, Nat.reduceMul, Nat.reduceSub, Nat.reduceBEq, ↓reduceIte, h1, shut_col]); simp only [go_sem]) | refine k_of (by assumption) ?_)
                    refine tr_cond rfl (fun ht => ?_) (fun hf => ?_)
                    · repeat (first | refine tr_seq_k fun _ _ => ?_ | (refine tr_region ?_; simp only [go_sem, reduceCtorEq, Nat.reduceEqDiff, Nat.reduceLT, Nat.reduceLeDiff, Nat.reduceAdd, ↓reduceIte, h2]) | (refine call_of (c2) ?_ ?_; (first | rfl | simp only [go_sem, reduceCtorEq, Nat.reduceEqDiff, Nat.reduceLT, Nat.reduceLeDiff, Nat.reduceAdd, Nat.reduceMul, Nat.reduceSub, Nat.reduceBEq, ↓reduceIte, h2, shut_col]); simp only [go_sem]) | refine k_of (by assumption) ?_)
                      refine tr_cond rfl (fun ht => ?_) (fun hf => ?_)
                      · repeat (first | refine tr_seq_k fun _ _ => ?_ | (refine tr_region ?_; simp only [go_sem, reduceCtorEq, Nat.reduceEqDiff, Nat.reduceLT, Nat.reduceLeDiff, Nat.reduceAdd, ↓reduceIte, h3]) | (refine call_of (c3) ?_ ?_; (first | rfl | simp only [go_sem, reduceCtorEq, Nat.reduceEqDiff, Nat.reduceLT, Nat.reduceLeDiff, Nat.reduceAdd, Nat.reduceMul, Nat.reduceSub, Nat.reduceBEq, ↓reduceIte, h3, shut_col]); simp only [go_sem]) | refine k_of (by assumption) ?_)
                        refine tr_cond rfl (fun ht => ?_) (fun hf => ?_)
                        · cases ht
                        · repeat (first | refine tr_seq_k fun _ _ => ?_ | (refine tr_region ?_; simp only [go_sem, List.getElem?_toArray, reduceCtorEq, Nat.reduceEqDiff, Nat.reduceLT, ↓reduceIte, d0, d1, d2, d3, d4, d5]) | refine k_of (by assumption) ?_ | (refine tr_skip ?_; try simp only [ex_seq]))
                          refine tr_cond rfl (fun ht => ?_) (fun hf => ?_)
                          · repeat (first | refine tr_seq_k fun _ _ => ?_ | (refine tr_region ?_; simp only [go_sem, reduceCtorEq, Nat.reduceEqDiff, Nat.reduceLT, ↓reduceIte]) | refine k_of (by assumption) ?_ | (refine tr_ret ?_; try simp only [ex_seq_ret]))
                            refine (hQ _ _ [iA 4] ?_ (fun m => ?_)).2 <;> simp only [go_sem, reduceCtorEq, Nat.reduceEqDiff, ↓reduceIte, Tryz.f23, hr]
                          · cases hf
                      · cases hf
                    · cases hf
                  | false =>
                    cases d6 : decide ((p.rules.length : Int) + (p.grants.length : Int) > 64) with
                    | true =>
                      have hL : L = true := by rw [el, d0, d1, d2, d3, d4, d5, d6]; rfl
                      have hr : R = 4 := by rw [e, if_pos hL]
                      refine does_of' Tryz.func23 rfl (by kernel_rfl) rfl Tryz.ntmps23 rfl rfl fun Q hQ => ?_
                      repeat (first | refine tr_seq_k fun _ _ => ?_ | (refine tr_region ?_; simp only [go_sem, reduceCtorEq, Nat.reduceEqDiff, Nat.reduceLT, Nat.reduceLeDiff, Nat.reduceAdd, ↓reduceIte, h1]) | (refine call_of (c1) ?_ ?_; (first | rfl | simp only [go_sem, reduceCtorEq, Nat.reduceEqDiff, Nat.reduceLT, Nat.reduceLeDiff, Nat.reduceAdd, Nat.reduceMul, Nat.reduceSub, Nat.reduceBEq, ↓reduceIte, h1, shut_col]); simp only [go_sem]) | refine k_of (by assumption) ?_)
                      refine tr_cond rfl (fun ht => ?_) (fun hf => ?_)
                      · repeat (first | refine tr_seq_k fun _ _ => ?_ | (refine tr_region ?_; simp only [go_sem, reduceCtorEq, Nat.reduceEqDiff, Nat.reduceLT, Nat.reduceLeDiff, Nat.reduceAdd, ↓reduceIte, h2]) | (refine call_of (c2) ?_ ?_; (first | rfl | simp only [go_sem, reduceCtorEq, Nat.reduceEqDiff, Nat.reduceLT, Nat.reduceLeDiff, Nat.reduceAdd, Nat.reduceMul, Nat.reduceSub, Nat.reduceBEq, ↓reduceIte, h2, shut_col]); simp only [go_sem]) | refine k_of (by assumption) ?_)
                        refine tr_cond rfl (fun ht => ?_) (fun hf => ?_)
                        · repeat (first | refine tr_seq_k fun _ _ => ?_ | (refine tr_region ?_; simp only [go_sem, reduceCtorEq, Nat.reduceEqDiff, Nat.reduceLT, Nat.reduceLeDiff, Nat.reduceAdd, ↓reduceIte, h3]) | (refine call_of (c3) ?_ ?_; (first | rfl | simp only [go_sem, reduceCtorEq, Nat.reduceEqDiff, Nat.reduceLT, Nat.reduceLeDiff, Nat.reduceAdd, Nat.reduceMul, Nat.reduceSub, Nat.reduceBEq, ↓reduceIte, h3, shut_col]); simp only [go_sem]) | refine k_of (by assumption) ?_)
                          refine tr_cond rfl (fun ht => ?_) (fun hf => ?_)
                          · cases ht
                          · repeat (first | refine tr_seq_k fun _ _ => ?_ | (refine tr_region ?_; simp only [go_sem, List.getElem?_toArray, reduceCtorEq, Nat.reduceEqDiff, Nat.reduceLT, ↓reduceIte, d0, d1, d2, d3, d4, d5, d6, wadd]) | refine k_of (by assumption) ?_ | (refine tr_skip ?_; try simp only [ex_seq]))
                            refine tr_cond rfl (fun ht => ?_) (fun hf => ?_)
                            · repeat (first | refine tr_seq_k fun _ _ => ?_ | (refine tr_region ?_; simp only [go_sem, reduceCtorEq, Nat.reduceEqDiff, Nat.reduceLT, ↓reduceIte]) | refine k_of (by assumption) ?_ | (refine tr_ret ?_; try simp only [ex_seq_ret]))
                              refine (hQ _ _ [iA 4] ?_ (fun m => ?_)).2 <;> simp only [go_sem, reduceCtorEq, Nat.reduceEqDiff, ↓reduceIte, Tryz.f23, hr]
                            · cases hf
                        · cases hf
                      · cases hf
                    | false =>
                      have hL : L = false := by rw [el, d0, d1, d2, d3, d4, d5, d6]; rfl
                      rw [if_neg (by rw [hL]; decide)] at e
                      refine does_of' Tryz.func23 rfl (by kernel_rfl) rfl Tryz.ntmps23 rfl rfl fun Q hQ => ?_
                      repeat (first | refine tr_seq_k fun _ _ => ?_ | (refine tr_region ?_; simp only [go_sem, reduceCtorEq, Nat.reduceEqDiff, Nat.reduceLT, Nat.reduceLeDiff, Nat.reduceAdd, ↓reduceIte, h1]) | (refine call_of (c1) ?_ ?_; (first | rfl | simp only [go_sem, reduceCtorEq, Nat.reduceEqDiff, Nat.reduceLT, Nat.reduceLeDiff, Nat.reduceAdd, Nat.reduceMul, Nat.reduceSub, Nat.reduceBEq, ↓reduceIte, h1, shut_col]); simp only [go_sem]) | refine k_of (by assumption) ?_)
                      refine tr_cond rfl (fun ht => ?_) (fun hf => ?_)
                      · repeat (first | refine tr_seq_k fun _ _ => ?_ | (refine tr_region ?_; simp only [go_sem, reduceCtorEq, Nat.reduceEqDiff, Nat.reduceLT, Nat.reduceLeDiff, Nat.reduceAdd, ↓reduceIte, h2]) | (refine call_of (c2) ?_ ?_; (first | rfl | simp only [go_sem, reduceCtorEq, Nat.reduceEqDiff, Nat.reduceLT, Nat.reduceLeDiff, Nat.reduceAdd, Nat.reduceMul, Nat.reduceSub, Nat.reduceBEq, ↓reduceIte, h2, shut_col]); simp only [go_sem]) | refine k_of (by assumption) ?_)
                        refine tr_cond rfl (fun ht => ?_) (fun hf => ?_)
                        · repeat (first | refine tr_seq_k fun _ _ => ?_ | (refine tr_region ?_; simp only [go_sem, reduceCtorEq, Nat.reduceEqDiff, Nat.reduceLT, Nat.reduceLeDiff, Nat.reduceAdd, ↓reduceIte, h3]) | (refine call_of (c3) ?_ ?_; (first | rfl | simp only [go_sem, reduceCtorEq, Nat.reduceEqDiff, Nat.reduceLT, Nat.reduceLeDiff, Nat.reduceAdd, Nat.reduceMul, Nat.reduceSub, Nat.reduceBEq, ↓reduceIte, h3, shut_col]); simp only [go_sem]) | refine k_of (by assumption) ?_)
                          refine tr_cond rfl (fun ht => ?_) (fun hf => ?_)
                          · cases ht
                          · repeat (first | refine tr_seq_k fun _ _ => ?_ | (refine tr_region ?_; simp only [go_sem, List.getElem?_toArray, reduceCtorEq, Nat.reduceEqDiff, Nat.reduceLT, ↓reduceIte, d0, d1, d2, d3, d4, d5, d6, wadd]) | refine k_of (by assumption) ?_ | (refine tr_skip ?_; try simp only [ex_seq]))
                            refine tr_cond rfl (fun ht => ?_) (fun hf => ?_)
                            · cases ht
                            · repeat (first | refine tr_seq_k fun _ _ => ?_ | (refine tr_region ?_; simp only [go_sem, reduceCtorEq, Nat.reduceEqDiff, Nat.reduceLT, ↓reduceIte]) | refine k_of (by assumption) ?_ | refine tr_block ?_ | (refine tr_skip ?_; try simp only [ex_seq]))
                              refine tr_loop_k (σ := Nat) (fun k => [(1, .ptr 0 0), (4, iA k)]) (fun _ => ⟨[⟨false, [.c (slC stC p.e1 p.prin), .c (slC prC p.e2 p.preds), .c (slC clC p.e3 p.clears), iA p.quota, iA p.budget, .c (slC ruC p.e4 p.rules), .c (slC grC p.e5 p.grants)]⟩], []⟩) (fun k => k ≤ p.rules.length ∧ ∀ j, j < k → ruleE p j = 0) (fun k => p.rules.length - k) 0 ⟨Nat.zero_le _, fun _ h => absurd h (Nat.not_lt_zero _)⟩ ⟨rfl, rfl, trivial⟩ rfl ?_
                              rintro k ⟨hk, hpk⟩ K hK
                              by_cases hkl : k < p.rules.length
                              · have q1 : decide ((k : Int) < (p.rules.length : Nat)) = true := decide_eq_true (by omega)
                                have ix := idxRu (ex := p.e4) hkl
                                have ws := wrap_succ (show k ≤ 1000000000 by have := hp.rules; omega)
                                have hh := firstE_hit (f := ruleE p) hpk hkl
                                have hn := zero_next (f := ruleE p) hpk
                                have hE : ruleE p k = if clause12 p p.rules[k].head p.rules[k].body ≠ 0 then clause12 p p.rules[k].head p.rules[k].body else if ranged12 p.rules[k].head p.rules[k].body = false then 9 else 0 := by unfold ruleE rAt; rw [at_get hkl]
                                have hbl := hp.rb _ (List.getElem_mem hkl)
                                have hok := ho _ (List.getElem_mem hkl)
                                generalize p.rules[k] = x at *
                                have cC := clause_does p x.head x.body x.ex hp hbl
                                have hcl := clause12_ok (p := p) (h := x.head) (b := x.body)
                                generalize clause12 p x.head x.body = y at *
                                cases g1 : decide (y = 0) with
                                | false =>
                                  have g1' := of_decide_eq_false g1
                                  rw [if_pos g1'] at hE
                                  have hr : R = y := by rw [e, hh (by rw [hE]; exact g1'), hE, if_pos g1']
                                  repeat (first | refine tr_seq_k fun _ _ => ?_ | (refine tr_region ?_; simp only [go_sem, List.getElem?_toArray, reduceCtorEq, Nat.reduceEqDiff, Nat.reduceLT, ↓reduceIte, q1]) | refine k_of (by assumption) ?_)
                                  refine tr_cond rfl (fun ht => ?_) (fun hf => ?_)
                                  · repeat (first | refine tr_seq_k fun _ _ => ?_ | (refine tr_draw (id := 13) follows 10000 [13] [0, 1, 2, 3, 4, 5, 6, 7, 8, 9, 10, 11, 12, 13, 14] (by kernel_rfl) ?_; simp only [go_sem, List.getElem?_toArray, reduceCtorEq, Nat.reduceEqDiff, Nat.reduceLT, Nat.reduceLeDiff, Nat.reduceAdd, ↓reduceIte, ix]) | (refine tr_draw (id := 14) follows 10000 [15] [0, 1, 2, 3, 4, 5, 6, 7, 8, 9, 10, 11, 12, 13, 14, 15, 16, 17] (by kernel_rfl) ?_; simp only [go_sem, List.getElem?_toArray, Nat.reduceEqDiff, Nat.reduceLT, ↓reduceIte, g1]) | (refine call_of (cC) ?_ ?_; (first | rfl | simp only [go_sem, reduceCtorEq, Nat.reduceEqDiff, Nat.reduceLT, Nat.reduceLeDiff, Nat.reduceAdd, Nat.reduceMul, Nat.reduceSub, Nat.reduceBEq, ↓reduceIte, ix, g1, shut_col]); simp only [go_sem, Bool.true_or]) | refine k_of (by assumption) ?_ | refine tr_block ?_ | (refine tr_skip ?_; try simp only [ex_seq]))
                                    refine tr_cond rfl (fun ht => ?_) (fun hf => ?_)
                                    · cases ht
                                    · repeat (first | refine tr_seq_k fun _ _ => ?_ | (refine tr_region ?_; simp only [go_sem, Nat.reduceEqDiff, Nat.reduceLT, ↓reduceIte, g1]) | refine k_of (by assumption) ?_ | (refine tr_skip ?_; try simp only [ex_seq]))
                                      refine tr_cond rfl (fun ht => ?_) (fun hf => ?_)
                                      · repeat (first | refine tr_seq_k fun _ _ => ?_ | (refine tr_region ?_; simp only [go_sem, Nat.reduceEqDiff, Nat.reduceLT, ↓reduceIte]) | refine k_of (by assumption) ?_ | (refine tr_ret ?_; try simp only [ex_seq_ret, ex_block_ret]))
                                        refine (hQ _ _ [iA y] ?_ (fun m => ?_)).2 <;> simp only [go_sem, Nat.reduceEqDiff, ↓reduceIte, Tryz.f23, hr]
                                      · cases hf
                                  · cases hf
                                | true =>
                                  have g1' := of_decide_eq_true g1
                                  rw [if_neg (fun h => h g1')] at hE
                                  obtain ⟨hhd, hba, _⟩ := hcl g1'
                                  have hok2 := okay_of hok (check3_zero (atom12_zero hhd).1).2.2.1 (check3_zero (atom12_zero hhd).1).2.2.2.1
                                  have cR := ranged_does x.head x.body x.ex hok2 (fun a ha => by
                                    obtain ⟨z1, _⟩ := atom12_zero (hba a ha)
                                    obtain ⟨_, _, z3, z4, _⟩ := check3_zero z1
                                    exact ⟨z3, z4⟩) hbl
                                  subst g1'
                                  cases g2 : ranged12 x.head x.body with
                                  | false =>
                                    rw [g2] at cR hE
                                    have hE : ruleE p k = 9 := hE
                                    have hr : R = 9 := by rw [e, hh (by rw [hE]; decide), hE, if_pos (by decide)]
                                    repeat (first | refine tr_seq_k fun _ _ => ?_ | (refine tr_region ?_; simp only [go_sem, List.getElem?_toArray, reduceCtorEq, Nat.reduceEqDiff, Nat.reduceLT, ↓reduceIte, q1]) | refine k_of (by assumption) ?_)
                                    refine tr_cond rfl (fun ht => ?_) (fun hf => ?_)
                                    · repeat (first | refine tr_seq_k fun _ _ => ?_ | (refine tr_draw (id := 13) follows 10000 [13] [0, 1, 2, 3, 4, 5, 6, 7, 8, 9, 10, 11, 12, 13, 14] (by kernel_rfl) ?_; simp only [go_sem, List.getElem?_toArray, reduceCtorEq, Nat.reduceEqDiff, Nat.reduceLT, Nat.reduceLeDiff, Nat.reduceAdd, ↓reduceIte, ix]) | (refine tr_draw (id := 14) follows 10000 [15] [0, 1, 2, 3, 4, 5, 6, 7, 8, 9, 10, 11, 12, 13, 14, 15, 16, 17] (by kernel_rfl) ?_; simp only [go_sem, List.getElem?_toArray, reduceCtorEq, Nat.reduceEqDiff, Nat.reduceLT, Nat.reduceLeDiff, ↓reduceIte, ix]) | (refine call_of (cC) ?_ ?_; (first | rfl | simp only [go_sem, reduceCtorEq, Nat.reduceEqDiff, Nat.reduceLT, Nat.reduceLeDiff, Nat.reduceAdd, Nat.reduceMul, Nat.reduceSub, Nat.reduceBEq, ↓reduceIte, ix, shut_col]); simp only [go_sem, Bool.true_or]) | (refine call_of (cR) ?_ ?_; (first | rfl | simp only [go_sem, reduceCtorEq, Nat.reduceEqDiff, Nat.reduceLT, Nat.reduceLeDiff, Nat.reduceAdd, Nat.reduceMul, Nat.reduceSub, Nat.reduceBEq, ↓reduceIte, ix, shut_col]); simp only [go_sem, Nat.reduceEqDiff, Nat.reduceLT, ↓reduceIte, Bool.true_or]) | refine k_of (by assumption) ?_ | refine tr_block ?_ | (refine tr_skip ?_; try simp only [ex_seq]))
                                      refine tr_cond rfl (fun ht => ?_) (fun hf => ?_)
                                      · repeat (first | refine tr_seq_k fun _ _ => ?_ | (refine tr_region ?_; simp only [go_sem, Nat.reduceEqDiff, Nat.reduceLT, ↓reduceIte]) | refine k_of (by assumption) ?_)
                                        refine tr_cond rfl (fun ht => ?_) (fun hf => ?_)
                                        · repeat (first | refine tr_seq_k fun _ _ => ?_ | (refine tr_region ?_; simp only [go_sem, Nat.reduceEqDiff, Nat.reduceLT, ↓reduceIte]) | refine k_of (by assumption) ?_ | (refine tr_ret ?_; try simp only [ex_seq_ret, ex_block_ret]))
                                          refine (hQ _ _ [iA 9] ?_ (fun m => ?_)).2 <;> simp only [go_sem, Nat.reduceEqDiff, ↓reduceIte, Tryz.f23, hr]
                                        · cases hf
                                      · cases hf
                                    · cases hf
                                  | true =>
                                    rw [g2] at cR hE
                                    have hE : ruleE p k = 0 := hE
                                    repeat (first | refine tr_seq_k fun _ _ => ?_ | (refine tr_region ?_; simp only [go_sem, List.getElem?_toArray, reduceCtorEq, Nat.reduceEqDiff, Nat.reduceLT, ↓reduceIte, q1]) | refine k_of (by assumption) ?_)
                                    refine tr_cond rfl (fun ht => ?_) (fun hf => ?_)
                                    · repeat (first | refine tr_seq_k fun _ _ => ?_ | (refine tr_draw (id := 13) follows 10000 [13] [0, 1, 2, 3, 4, 5, 6, 7, 8, 9, 10, 11, 12, 13, 14] (by kernel_rfl) ?_; simp only [go_sem, List.getElem?_toArray, reduceCtorEq, Nat.reduceEqDiff, Nat.reduceLT, Nat.reduceLeDiff, Nat.reduceAdd, ↓reduceIte, ix]) | (refine tr_draw (id := 14) follows 10000 [15] [0, 1, 2, 3, 4, 5, 6, 7, 8, 9, 10, 11, 12, 13, 14, 15, 16, 17] (by kernel_rfl) ?_; simp only [go_sem, List.getElem?_toArray, reduceCtorEq, Nat.reduceEqDiff, Nat.reduceLT, Nat.reduceLeDiff, ↓reduceIte, ix]) | (refine call_of (cC) ?_ ?_; (first | rfl | simp only [go_sem, reduceCtorEq, Nat.reduceEqDiff, Nat.reduceLT, Nat.reduceLeDiff, Nat.reduceAdd, Nat.reduceMul, Nat.reduceSub, Nat.reduceBEq, ↓reduceIte, ix, shut_col]); simp only [go_sem, Bool.true_or]) | (refine call_of (cR) ?_ ?_; (first | rfl | simp only [go_sem, reduceCtorEq, Nat.reduceEqDiff, Nat.reduceLT, Nat.reduceLeDiff, Nat.reduceAdd, Nat.reduceMul, Nat.reduceSub, Nat.reduceBEq, ↓reduceIte, ix, shut_col]); simp only [go_sem, Nat.reduceEqDiff, Nat.reduceLT, ↓reduceIte, Bool.true_or]) | refine k_of (by assumption) ?_ | refine tr_block ?_ | (refine tr_skip ?_; try simp only [ex_seq]))
                                      refine tr_cond rfl (fun ht => ?_) (fun hf => ?_)
                                      · cases ht
                                      · repeat (first | refine tr_seq_k fun _ _ => ?_ | (refine tr_region ?_; simp only [go_sem, Nat.reduceEqDiff, Nat.reduceLT, ↓reduceIte, bne_self_eq_false]) | refine k_of (by assumption) ?_ | (refine tr_skip ?_; try simp only [ex_seq]))
                                        refine tr_cond rfl (fun ht => ?_) (fun hf => ?_)
                                        · cases ht
                                        · repeat (first | (refine tr_region ?_; simp only [go_sem, Nat.reduceEqDiff, Nat.reduceLT, ↓reduceIte, ws]) | refine k_of (by assumption) ?_ | (refine tr_skip ?_; try simp only [ex_seq, ex_block]))
                                          exact hK (k + 1) _ _ ⟨hkl, hn hE⟩ ⟨⟨rfl, rfl, trivial⟩, Keep.refl _, rfl, rfl, Nat.le_refl _, Nat.le_refl _⟩ (by omega)
                                    · cases hf
                              · have q1 : decide ((k : Int) < (p.rules.length : Nat)) = false := decide_eq_false (by omega)
                                rw [firstE_none fun j hj => hpk j (by omega), if_neg (by decide)] at e
                                repeat (first | refine tr_seq_k fun _ _ => ?_ | (refine tr_region ?_; simp only [go_sem, List.getElem?_toArray, reduceCtorEq, Nat.reduceEqDiff, Nat.reduceLT, ↓reduceIte, q1]) | refine k_of (by assumption) ?_)
                                refine tr_cond rfl (fun ht => ?_) (fun hf => ?_)
                                · cases ht
                                · repeat (first | refine tr_seq_k fun _ _ => ?_ | (refine tr_region ?_; simp only [go_sem, Nat.reduceEqDiff, Nat.reduceLT, ↓reduceIte]) | refine k_of (by assumption) ?_ | refine tr_block ?_ | (refine tr_exit ?_; try simp only [ex_seq_exit, ex_block_exit, ex_seq, ↓reduceIte]))
                                  refine tr_loop_k (σ := Nat) (fun k => [(1, .ptr 0 0), (5, iA k)]) (fun _ => ⟨[⟨false, [.c (slC stC p.e1 p.prin), .c (slC prC p.e2 p.preds), .c (slC clC p.e3 p.clears), iA p.quota, iA p.budget, .c (slC ruC p.e4 p.rules), .c (slC grC p.e5 p.grants)]⟩], []⟩) (fun k => k ≤ p.grants.length ∧ ∀ j, j < k → grtE p j = 0) (fun k => p.grants.length - k) 0 ⟨Nat.zero_le _, fun _ h => absurd h (Nat.not_lt_zero _)⟩ ⟨rfl, rfl, trivial⟩ rfl ?_
                                  rintro k ⟨hk, hpk⟩ K hK
                                  by_cases hkl : k < p.grants.length
                                  · have q1 : decide ((k : Int) < (p.grants.length : Nat)) = true := decide_eq_true (by omega)
                                    have ix := idxGr (ex := p.e5) hkl
                                    have ws := wrap_succ (show k ≤ 1000000000 by have := hp.grants; omega)
                                    have hh := firstE_hit (f := grtE p) hpk hkl
                                    have hn := zero_next (f := grtE p) hpk
                                    have hE : grtE p k = if prinM p.prin p.grants[k].tw = false then 6 else if p.grants[k].tw = p.grants[k].head.says then 11 else clause12 p p.grants[k].head p.grants[k].body := by unfold grtE gAt; rw [at_get hkl]
                                    have hbl := hp.gb _ (List.getElem_mem hkl)
                                    generalize p.grants[k] = x at *
                                    have cP : Does Tryz.prog 51 [poA p, sA x.tw] (fun m => (bA (prinM p.prin x.tw), m)) := prin_does p.prin p.e1 _ _ _ _ _ _ x.tw hp.prin
                                    have cC := clause_does p x.head x.body x.ex hp hbl
                                    generalize clause12 p x.head x.body = y at *
                                    cases g0 : prinM p.prin x.tw with
                                    | false =>
                                      rw [g0] at cP hE
                                      have hE : grtE p k = 6 := hE
                                      have hr : R = 6 := by rw [e, hh (by rw [hE]; decide), hE]
                                      repeat (first | refine tr_seq_k fun _ _ => ?_ | (refine tr_region ?_; simp only [go_sem, List.getElem?_toArray, reduceCtorEq, Nat.reduceEqDiff, Nat.reduceLT, ↓reduceIte, q1]) | refine k_of (by assumption) ?_)
                                      refine tr_cond rfl (fun ht => ?_) (fun hf => ?_)
                                      · repeat (first | refine tr_seq_k fun _ _ => ?_ | (refine tr_region ?_; simp only [go_sem, List.getElem?_toArray, reduceCtorEq, Nat.reduceEqDiff, Nat.reduceLT, Nat.reduceLeDiff, Nat.reduceAdd, ↓reduceIte, ix]) | (refine call_of (cP) ?_ ?_; (first | rfl | simp only [go_sem, reduceCtorEq, Nat.reduceEqDiff, Nat.reduceLT, Nat.reduceLeDiff, Nat.reduceAdd, Nat.reduceMul, Nat.reduceSub, Nat.reduceBEq, ↓reduceIte, ix, shut_col]); simp only [go_sem, Nat.reduceEqDiff, Nat.reduceLT, ↓reduceIte]) | refine k_of (by assumption) ?_ | refine tr_block ?_ | (refine tr_skip ?_; try simp only [ex_seq]))
                                        refine tr_cond rfl (fun ht => ?_) (fun hf => ?_)
                                        · repeat (first | refine tr_seq_k fun _ _ => ?_ | (refine tr_region ?_; simp only [go_sem, Nat.reduceEqDiff, Nat.reduceLT, ↓reduceIte]) | refine k_of (by assumption) ?_ | (refine tr_ret ?_; try simp only [ex_seq_ret, ex_block_ret]))
                                          refine (hQ _ _ [iA 6] ?_ (fun m => ?_)).2 <;> simp only [go_sem, Nat.reduceEqDiff, ↓reduceIte, Tryz.f23, hr]
                                        · cases hf
                                      · cases hf
                                    | true =>
                                      rw [g0, if_neg (by decide)] at hE
                                      rw [g0] at cP
                                      cases g1 : decide (x.tw = x.head.says) with
                                      | true =>
                                        rw [if_pos (of_decide_eq_true g1)] at hE
                                        have hr : R = 11 := by rw [e, hh (by rw [hE]; decide), hE]
                                        repeat (first | refine tr_seq_k fun _ _ => ?_ | (refine tr_region ?_; simp only [go_sem, List.getElem?_toArray, reduceCtorEq, Nat.reduceEqDiff, Nat.reduceLT, ↓reduceIte, q1]) | refine k_of (by assumption) ?_)
                                        refine tr_cond rfl (fun ht => ?_) (fun hf => ?_)
                                        · repeat (first | refine tr_seq_k fun _ _ => ?_ | (refine tr_region ?_; simp only [go_sem, List.getElem?_toArray, reduceCtorEq, Nat.reduceEqDiff, Nat.reduceLT, Nat.reduceLeDiff, Nat.reduceAdd, ↓reduceIte, ix]) | (refine call_of (cP) ?_ ?_; (first | rfl | simp only [go_sem, reduceCtorEq, Nat.reduceEqDiff, Nat.reduceLT, Nat.reduceLeDiff, Nat.reduceAdd, Nat.reduceMul, Nat.reduceSub, Nat.reduceBEq, ↓reduceIte, ix, shut_col]); simp only [go_sem, Nat.reduceEqDiff, Nat.reduceLT, ↓reduceIte]) | refine k_of (by assumption) ?_ | refine tr_block ?_ | (refine tr_skip ?_; try simp only [ex_seq]))
                                          refine tr_cond rfl (fun ht => ?_) (fun hf => ?_)
                                          · cases ht
                                          · repeat (first | refine tr_seq_k fun _ _ => ?_ | (refine tr_region ?_; simp only [go_sem, reduceCtorEq, Nat.reduceEqDiff, Nat.reduceLT, ↓reduceIte, g1]) | refine k_of (by assumption) ?_ | (refine tr_skip ?_; try simp only [ex_seq]))
                                            refine tr_cond rfl (fun ht => ?_) (fun hf => ?_)
                                            · repeat (first | refine tr_seq_k fun _ _ => ?_ | (refine tr_region ?_; simp only [go_sem, Nat.reduceEqDiff, Nat.reduceLT, ↓reduceIte]) | refine k_of (by assumption) ?_ | (refine tr_ret ?_; try simp only [ex_seq_ret, ex_block_ret]))
                                              refine (hQ _ _ [iA 11] ?_ (fun m => ?_)).2 <;> simp only [go_sem, Nat.reduceEqDiff, ↓reduceIte, Tryz.f23, hr]
                                            · cases hf
                                        · cases hf
                                      | false =>
                                        rw [if_neg (of_decide_eq_false g1)] at hE
                                        cases g2 : decide (y = 0) with
                                        | false =>
                                          have hr : R = y := by rw [e, hh (by rw [hE]; exact of_decide_eq_false g2), hE]
                                          repeat (first | refine tr_seq_k fun _ _ => ?_ | (refine tr_region ?_; simp only [go_sem, List.getElem?_toArray, reduceCtorEq, Nat.reduceEqDiff, Nat.reduceLT, ↓reduceIte, q1]) | refine k_of (by assumption) ?_)
                                          refine tr_cond rfl (fun ht => ?_) (fun hf => ?_)
                                          · repeat (first | refine tr_seq_k fun _ _ => ?_ | (refine tr_region ?_; simp only [go_sem, List.getElem?_toArray, reduceCtorEq, Nat.reduceEqDiff, Nat.reduceLT, Nat.reduceLeDiff, Nat.reduceAdd, ↓reduceIte, ix]) | (refine call_of (cP) ?_ ?_; (first | rfl | simp only [go_sem, reduceCtorEq, Nat.reduceEqDiff, Nat.reduceLT, Nat.reduceLeDiff, Nat.reduceAdd, Nat.reduceMul, Nat.reduceSub, Nat.reduceBEq, ↓reduceIte, ix, shut_col]); simp only [go_sem, Nat.reduceEqDiff, Nat.reduceLT, ↓reduceIte]) | refine k_of (by assumption) ?_ | refine tr_block ?_ | (refine tr_skip ?_; try simp only [ex_seq]))
                                            refine tr_cond rfl (fun ht => ?_) (fun hf => ?_)
                                            · cases ht
                                            · repeat (first | refine tr_seq_k fun _ _ => ?_ | (refine tr_region ?_; simp only [go_sem, reduceCtorEq, Nat.reduceEqDiff, Nat.reduceLT, ↓reduceIte, g1]) | refine k_of (by assumption) ?_ | (refine tr_skip ?_; try simp only [ex_seq]))
                                              refine tr_cond rfl (fun ht => ?_) (fun hf => ?_)
                                              · cases ht
                                              · repeat (first | refine tr_seq_k fun _ _ => ?_ | (refine tr_region ?_; simp only [go_sem, List.getElem?_toArray, reduceCtorEq, Nat.reduceEqDiff, Nat.reduceLT, Nat.reduceLeDiff, Nat.reduceAdd, ↓reduceIte, g2]) | (refine call_of (cC) ?_ ?_; (first | rfl | simp only [go_sem, reduceCtorEq, Nat.reduceEqDiff, Nat.reduceLT, Nat.reduceLeDiff, Nat.reduceAdd, Nat.reduceMul, Nat.reduceSub, Nat.reduceBEq, ↓reduceIte, g2, shut_col]); simp only [go_sem]) | refine k_of (by assumption) ?_ | (refine tr_skip ?_; try simp only [ex_seq]))
                                                refine tr_cond rfl (fun ht => ?_) (fun hf => ?_)
                                                · repeat (first | refine tr_seq_k fun _ _ => ?_ | (refine tr_region ?_; simp only [go_sem, Nat.reduceEqDiff, Nat.reduceLT, ↓reduceIte]) | refine k_of (by assumption) ?_ | (refine tr_ret ?_; try simp only [ex_seq_ret, ex_block_ret]))
                                                  refine (hQ _ _ [iA y] ?_ (fun m => ?_)).2 <;> simp only [go_sem, Nat.reduceEqDiff, ↓reduceIte, Tryz.f23, hr]
                                                · cases hf
                                          · cases hf
                                        | true =>
                                          have hE0 : grtE p k = 0 := hE.trans (of_decide_eq_true g2)
                                          repeat (first | refine tr_seq_k fun _ _ => ?_ | (refine tr_region ?_; simp only [go_sem, List.getElem?_toArray, reduceCtorEq, Nat.reduceEqDiff, Nat.reduceLT, ↓reduceIte, q1]) | refine k_of (by assumption) ?_)
                                          refine tr_cond rfl (fun ht => ?_) (fun hf => ?_)
                                          · repeat (first | refine tr_seq_k fun _ _ => ?_ | (refine tr_region ?_; simp only [go_sem, List.getElem?_toArray, reduceCtorEq, Nat.reduceEqDiff, Nat.reduceLT, Nat.reduceLeDiff, Nat.reduceAdd, ↓reduceIte, ix]) | (refine call_of (cP) ?_ ?_; (first | rfl | simp only [go_sem, reduceCtorEq, Nat.reduceEqDiff, Nat.reduceLT, Nat.reduceLeDiff, Nat.reduceAdd, Nat.reduceMul, Nat.reduceSub, Nat.reduceBEq, ↓reduceIte, ix, shut_col]); simp only [go_sem, Nat.reduceEqDiff, Nat.reduceLT, ↓reduceIte]) | refine k_of (by assumption) ?_ | refine tr_block ?_ | (refine tr_skip ?_; try simp only [ex_seq]))
                                            refine tr_cond rfl (fun ht => ?_) (fun hf => ?_)
                                            · cases ht
                                            · repeat (first | refine tr_seq_k fun _ _ => ?_ | (refine tr_region ?_; simp only [go_sem, reduceCtorEq, Nat.reduceEqDiff, Nat.reduceLT, ↓reduceIte, g1]) | refine k_of (by assumption) ?_ | (refine tr_skip ?_; try simp only [ex_seq]))
                                              refine tr_cond rfl (fun ht => ?_) (fun hf => ?_)
                                              · cases ht
                                              · repeat (first | refine tr_seq_k fun _ _ => ?_ | (refine tr_region ?_; simp only [go_sem, List.getElem?_toArray, reduceCtorEq, Nat.reduceEqDiff, Nat.reduceLT, Nat.reduceLeDiff, Nat.reduceAdd, ↓reduceIte, g2]) | (refine call_of (cC) ?_ ?_; (first | rfl | simp only [go_sem, reduceCtorEq, Nat.reduceEqDiff, Nat.reduceLT, Nat.reduceLeDiff, Nat.reduceAdd, Nat.reduceMul, Nat.reduceSub, Nat.reduceBEq, ↓reduceIte, g2, shut_col]); simp only [go_sem]) | refine k_of (by assumption) ?_ | (refine tr_skip ?_; try simp only [ex_seq]))
                                                refine tr_cond rfl (fun ht => ?_) (fun hf => ?_)
                                                · cases ht
                                                · repeat (first | (refine tr_region ?_; simp only [go_sem, Nat.reduceEqDiff, Nat.reduceLT, ↓reduceIte, ws]) | refine k_of (by assumption) ?_ | (refine tr_skip ?_; try simp only [ex_seq, ex_block]))
                                                  exact hK (k + 1) _ _ ⟨hkl, hn hE0⟩ ⟨⟨rfl, rfl, trivial⟩, Keep.of (eh := [_]) (ew := []) rfl rfl, rfl, rfl, Nat.le_refl _, Nat.le_refl _⟩ (by omega)
                                          · cases hf
                                  · have q1 : decide ((k : Int) < (p.grants.length : Nat)) = false := decide_eq_false (by omega)
                                    have hr : R = 0 := by rw [e, firstE_none fun j hj => hpk j (by omega)]
                                    repeat (first | refine tr_seq_k fun _ _ => ?_ | (refine tr_region ?_; simp only [go_sem, List.getElem?_toArray, reduceCtorEq, Nat.reduceEqDiff, Nat.reduceLT, ↓reduceIte, q1]) | refine k_of (by assumption) ?_)
                                    refine tr_cond rfl (fun ht => ?_) (fun hf => ?_)
                                    · cases ht
                                    · repeat (first | refine tr_seq_k fun _ _ => ?_ | (refine tr_region ?_; simp only [go_sem, Nat.reduceEqDiff, Nat.reduceLT, ↓reduceIte]) | refine k_of (by assumption) ?_ | (refine tr_exit ?_; try simp only [ex_seq_exit, ex_block_exit, ex_seq, ↓reduceIte]) | (refine tr_ret ?_; try simp only [ex_seq_ret, ex_block_ret]))
                                      refine (hQ _ _ [iA 0] ?_ (fun m => ?_)).2 <;> simp only [go_sem, Nat.reduceEqDiff, ↓reduceIte, Tryz.f23, hr]
                        · cases hf
                      · cases hf
end Go.Proofs.YtinbfakpjnnagaaGreatDoor
namespace Go.Vs.Ab
open Go.RowKit
variable {P : Program} {X : Mem} {W0 w w' : World} {m : Mm}
theorem vals_getv : ∀ {cs : List CV} {xs : List Value}, vals cs = some xs → ∀ (i : Nat) (c : CV), cs[i]? = some c → ∃ x, c = .v x ∧ xs[i]? = some x
  | [], xs, h, i, c, hc => by simp at hc
  | .sl .. :: _, _, h, _, _, _ => by simp [vals] at h
  | .v x :: r, xs, h, i, c, hc => by
    simp only [vals, Option.map_eq_some_iff] at h
    obtain ⟨ys, h1, rfl⟩ := h
    cases i with
    | zero => simp at hc; exact ⟨x, hc.symm, rfl⟩
    | succ i =>
      obtain ⟨y, h2, h3⟩ := vals_getv h1 i c (by simpa using hc)
      exact ⟨y, h2, by simpa using h3⟩
theorem MR.adopt (M : MR X W0 m w) {β R : Nat} {cur : Array Value} {t : TypeId} {cs : List AV} (hW : W0.heap.size ≤ β) (hcell : ∀ o, X.cell β o = none) (hloc : ∀ i, X.loc i ≠ some β) (hown : ∀ k T, X.own k = some T → T.g ≠ β)
    (hheap : w.heap[β]? = some (.cells cur t (0, 0))) (hl : cs.length ≤ cur.size) (hr : Reps X cs (cur.toList.take cs.length)) (hR : X.room β ≤ R) (hRs : R ≤ cur.size) :
    MR (X.adopt m.hp.length β R) W0 { m with hp := m.hp ++ [⟨false, cs⟩] } w ∧ X.Le W0.heap.size (X.adopt m.hp.length β R) :=
  M.adopt' hW hcell (fun i _ h _ => absurd h (hloc i)) hown hheap hl hr hR hRs
theorem Does.lsl {F : FuncId} {args args' : List AV} {f : Mm → AV × Mm} (h : Does P F args' f) (hs : shuts args = some args') {k n : Nat} {e : TypeId} {size : Nat} {cs : List CV} {xs : List Value} {m1 : Mm} (hf : f ⟨[], []⟩ = (.own k n cs, m1)) (hk : m1.hw[k]? = some ⟨n, e, size⟩) (hv : vals cs = some xs) (m : Mm) :
    Gives P F args m (.lsl m.hp.length 0 n size) { m with hp := m.hp ++ [⟨false, cs.map .c⟩] } := by
  refine ⟨h.1, fun X W0 w vs M ha => ?_⟩
  refine (h.2 X.bare w ⟨[], []⟩ w vs (bare_MR M) (shuts_rep (X := X) (Y := X.bare) rfl hs ha)).mono ?_
  rintro _ w' ⟨v, X1, rfl, k1, k2, k3, _⟩
  rw [hf] at k2 k3
  have M1 := M.grow k3.below
  obtain ⟨T, t1, ⟨t2, t2e, t2s⟩, t3, t4, t5, t6, ⟨cur, t7, t8⟩, t9, t10⟩ := k3.toks k _ hk
  simp only at t2 t2e t2s
  cases k2 with
  | own hr hn1 hc hx ht =>
    rename_i ys a cap
    obtain ⟨T', u1, u2, u3⟩ := ht
    rw [t1] at u1
    injection u1 with u1
    subst u1
    obtain ⟨rfl, rfl⟩ := u3 t2.symm
    have hnew : ∀ o, X.cell T.g o = none := fun o => by
      cases hq : X.cell T.g o with
      | none => rfl
      | some x => have := M.cellBlock hq; omega
    have hroom : X.room T.g = 0 := by
      rcases Nat.eq_zero_or_pos (X.room T.g) with h0 | h0
      · exact h0
      · obtain ⟨ar, tt, zz, q1, _⟩ := M.rm T.g h0
        have := (Array.getElem?_eq_some_iff.1 q1).1
        omega
    have hcurj : ∀ (j : Nat) (x : Value), ys[j]? = some x → cur[j]? = some x := fun j x hj => by
      obtain ⟨b, o, e1, e2⟩ := hx j x hj
      injection e1 with e1
      injection e1 with e1 e3
      subst e1 e3
      have h5 := k3.cell _ _ _ e2
      rw [Nat.zero_add] at h5
      simp only [World.cell?, t7] at h5
      simpa using h5
    have hlen : cs.length ≤ cur.size := by
      rcases Nat.eq_zero_or_pos cs.length with h0 | h0
      · omega
      · have hl : cs.length - 1 < ys.length := by rw [← hr.1]; omega
        have := hcurj _ _ (List.getElem?_eq_getElem hl)
        have := (Array.getElem?_eq_some_iff.1 this).1
        omega
    have hrp : Reps X (cs.map .c) (cur.toList.take (cs.map AV.c).length) := by
      rw [List.length_map]
      refine ⟨by rw [List.length_map, List.length_take]; simp only [Array.length_toList]; omega, fun i c x h1 h2 => ?_⟩
      rw [List.getElem?_map, Option.map_eq_some_iff] at h1
      obtain ⟨c0, h1, rfl⟩ := h1
      have hi := (List.getElem?_eq_some_iff.1 h1).1
      rw [List.getElem?_take, if_pos hi, Array.getElem?_toList] at h2
      obtain ⟨x0, rfl, _⟩ := vals_getv hv i c0 h1
      have hl : i < ys.length := by rw [← hr.1]; exact hi
      have h3 := hcurj i _ (List.getElem?_eq_getElem hl)
      rw [h2] at h3
      injection h3 with h3
      have h4 := hr.2 i _ _ h1 (List.getElem?_eq_getElem hl)
      rw [← h3] at h4
      cases h4 with
      | v h5 => exact .c (.v h5)
    obtain ⟨A, hle⟩ := M1.adopt (β := T.g) (R := T.cap * T.size) (Nat.le_trans M.below.size t3) hnew (fun i hi => by have := (M.locBlock hi).1; omega) (fun k S hS e => by have := (M.tokBlock hS).1; omega) t7 (by rw [List.length_map]; exact hlen) hrp (by rw [hroom]; exact Nat.zero_le _) (by rw [t8]; exact Nat.le_refl _)
    refine ⟨_, X.adopt m.hp.length T.g (T.cap * T.size), rfl, hle, ?_, A, fun i β hi => k3.below.block β (M.locBlock hi).1⟩
    refine .lsl (by simp [Mem.adopt]) (fun _ => by rw [Nat.zero_mul]) hn1 hc.1 ?_
    simp only [Mem.adopt, if_true]
    rw [t2s, Nat.zero_add]
    exact Nat.le_refl _
theorem givesW_of {F : FuncId} {fn : Func} {c : Code} (hF : P.funcs[F]? = some fn) (hb : fn.body = some c) (hcb : callableB fn = true) {args : List AV} {r : AV} {m m' : Mm} (hle : args.length ≤ fn.ntmps)
    (h : Tr fle P fn.ntmps c (initFr 0 args) m (fun e fr m1 => (∀ id, e ≠ .exit id) ∧ ∃ cs, resAll P fr m1 fn.results.toList = some cs ∧ resV cs = r ∧ m1 = m')) : GivesW P F args m r m' := by
  refine ⟨callable_of hF hcb, fun X W0 w vs M hargs => ?_⟩
  refine (calls_of_wp hF hb (R := fun e w' => ∃ v X', e = .returned v ∧ X.Le W0.heap.size X' ∧ Rep X' r v ∧ MR X' W0 m' w') (wp_mono (h X W0 w _ (FR.init hargs hle) M) ?_))
  rintro _ a' w' ⟨ex, fr', m1, X1, rfl, ⟨hne, cs, h1, rfl, rfl⟩, k1, k2, k3⟩
  obtain ⟨vs', g1, g2⟩ := resAll_ok k2 k3 h1
  have : a'.defers = [] ∧ ∃ v, (results fn a'.tmps).run P w' = .ok v w' ∧ ∃ v2 X', Ending.returned v = .returned v2 ∧ X.Le W0.heap.size X' ∧ Rep X' (resV cs) v2 ∧ MR X' W0 m1 w' :=
    ⟨k2.defers, _, results_run g2, _, X1, rfl, k1, resV_ok g1, k3⟩
  cases ex with
  | nrm => exact this
  | ret => exact this
  | exit id => exact absurd rfl (hne id)
theorem givesW_of' {F : FuncId} {fn : Func} {c : Code} {rs : List ResultVar} (hF : P.funcs[F]? = some fn) (hb : fn.body = some c) (hcb : callableB fn = true) {args : List AV} {r : AV} {m m' : Mm} {nt : Nat} (hnt : fn.ntmps = nt) (hle : Nat.ble args.length nt = true) (hrs : fn.results.toList = rs)
    (h : ∀ Q : Ex → Fr → Mm → Prop, (∀ fr m1 cs, resAll P fr m1 rs = some cs → resV cs = r → m1 = m' → Q .nrm fr m1 ∧ Q .ret fr m1) → Tr fle P nt c (initFr 0 args) m Q) : GivesW P F args m r m' := by
  subst hnt hrs
  exact givesW_of hF hb hcb (by simpa using hle) (h _ fun fr m1 cs h1 h2 h3 => ⟨⟨(fun _ h => by cases h), cs, h1, h2, h3⟩, ⟨(fun _ h => by cases h), cs, h1, h2, h3⟩⟩)
end Go.Vs.Ab
namespace Go.Vs.Ab
open Go.RowKit
variable {P : Program} {X : Mem} {W0 w w' : World} {m : Mm}
def blC {T : Type} (enc : T → List CV) (l : List T) : List AV := (l.flatMap enc).map .c
theorem plainB_blC {T : Type} {enc : T → List CV} {l : List T} : plainB (blC enc l) = true := by
  unfold blC
  cases l.flatMap enc <;> rfl
theorem lows_c (i j : Nat) : ∀ ds : List CV, lows i j (ds.map .c) = true
  | [] => rfl
  | d :: r => by
    show (low i j (.c d) && lows i j (r.map .c)) = true
    rw [lows_c i j r]
    rfl
theorem lows_blC {T : Type} {enc : T → List CV} {l : List T} {i j : Nat} : lows i j (blC enc l) = true := lows_c i j _
theorem len_blC {T : Type} {enc : T → List CV} {size : Nat} (hk : ∀ x, (enc x).length = size) (l : List T) : (blC enc l).length = l.length * size := by
  unfold blC
  rw [List.length_map, flat_length enc size hk]
theorem cleans_map : ∀ ds : List CV, cleans (ds.map .c) = some ds
  | [] => rfl
  | d :: r => by
    show cleans (.c d :: r.map .c) = _
    simp only [cleans, clean, cleans_map r]
theorem drop_blC {T : Type} {enc : T → List CV} {size : Nat} (hk : ∀ x, (enc x).length = size) {l : List T} {k : Nat} (h : k < l.length) : List.drop (k * size) (blC enc l) = (enc l[k]).map .c ++ blC enc (l.drop (k + 1)) := by
  unfold blC
  rw [← List.map_drop, flat_drop enc size hk l k h, List.map_append]
theorem fit_blC {T : Type} {enc : T → List CV} {size : Nat} (hk : ∀ x, (enc x).length = size) {l : List T} {k : Nat} (h : k < l.length) : k * size + size ≤ (blC enc l).length := by
  rw [len_blC hk]
  have : (k + 1) * size ≤ l.length * size := Nat.mul_le_mul_right _ h
  rwa [Nat.add_mul, Nat.one_mul] at this
theorem take_flat {T : Type} {enc : T → List CV} {size : Nat} (hk : ∀ x, (enc x).length = size) (l : List T) (k : Nat) : List.take (k * size) (l.flatMap enc) = (l.take k).flatMap enc := by
  induction k generalizing l with
  | zero => simp
  | succ k ih =>
    cases l with
    | nil => simp
    | cons x l =>
      rw [List.flatMap_cons, List.take_succ_cons, List.flatMap_cons, ← ih l]
      have : (k + 1) * size = (enc x).length + k * size := by rw [hk, Nat.add_mul, Nat.one_mul, Nat.add_comm]
      rw [this, List.take_append]
      have h1 : List.take ((enc x).length + k * size) (enc x) = enc x := List.take_of_length_le (by omega)
      rw [h1]
      congr 2
      omega
theorem drop_flat {T : Type} {enc : T → List CV} {size : Nat} (hk : ∀ x, (enc x).length = size) (l : List T) (k : Nat) : List.drop (k * size) (l.flatMap enc) = (l.drop k).flatMap enc := by
  induction k generalizing l with
  | zero => simp
  | succ k ih =>
    cases l with
    | nil => simp
    | cons x l =>
      rw [List.flatMap_cons, List.drop_succ_cons, ← ih l]
      have : (k + 1) * size = (enc x).length + k * size := by rw [hk, Nat.add_mul, Nat.one_mul, Nat.add_comm]
      rw [this, ← List.drop_drop, List.drop_left' rfl]
theorem set_blC {T : Type} {enc : T → List CV} {size : Nat} (hk : ∀ x, (enc x).length = size) {l : List T} {k : Nat} (h : k < l.length) (x : T) : List.take (k * size) (blC enc l) ++ (enc x).map AV.c ++ List.drop (k * size + size) (blC enc l) = blC enc (l.set k x) := by
  unfold blC
  have e : k * size + size = (k + 1) * size := by rw [Nat.add_mul, Nat.one_mul]
  rw [← List.map_take, ← List.map_drop, e, take_flat hk, drop_flat hk, List.set_eq_take_append_cons_drop, if_pos h, List.flatMap_append, List.flatMap_cons, List.map_append, List.map_append, List.append_assoc]
theorem idxL {t e : TypeId} {size : Nat} (ht : P.underlying t = some (.slice e)) (hs : tsz P e = some size) (h0 : 0 < size) {b lo n k : Nat} {ik : IntKind} (h : k < n) : aIndexL P t (.lsl b lo n size) (.c (.v (.int ik (k : Int)))) = some (.ptr b ((lo + k) * size)) := by
  have h1 : Nat.blt k n = true := by simpa using h
  have h2 : Nat.blt 0 size = true := by simpa using h0
  have hn : natI (k : Int) = some k := natI_nat k
  simp only [aIndexL, ht, lsV, intV, hs, hn, h1, h2, Nat.beq_refl, Bool.and_self, if_true]
theorem slL_from {t e : TypeId} {size : Nat} (ht : P.underlying t = some (.slice e)) (hs : tsz P e = some size) {b lo n k : Nat} (h : k ≤ n) : aSliceL P t (.lsl b lo n size) (some (k : Int)) none none = some (.lsl b (lo + k) (n - k) size) := by
  have hb : bnds n (some (k : Int)) none none = some (k, n, none) := by
    unfold bnds
    simp [natI_nat, h]
  simp only [aSliceL, ht, lsV, hs, hb, Nat.beq_refl, if_true]
theorem slL_to {t e : TypeId} {size : Nat} (ht : P.underlying t = some (.slice e)) (hs : tsz P e = some size) {b lo n k : Nat} (h : k ≤ n) : aSliceL P t (.lsl b lo n size) none (some (k : Int)) none = some (.lsl b lo k size) := by
  have hb : bnds n none (some (k : Int)) none = some (0, k, none) := by
    unfold bnds
    simp [natI_nat, h]
  simp only [aSliceL, ht, lsV, hs, hb, Nat.beq_refl, if_true, Nat.add_zero, Nat.sub_zero]
theorem zrs_rep {T : Type} {enc : T → List CV} (z : T) (n : Nat) (h : 0 < (enc z).length) : zrs n (enc z) = blC enc (List.replicate n z) := by
  have key : ∀ n, (List.range (n * (enc z).length)).map (fun i => (enc z).getD (i % (enc z).length) default) = (List.replicate n z).flatMap enc := fun n => by
    induction n with
    | zero => simp
    | succ n ih =>
      rw [List.replicate_succ', List.flatMap_append, ← ih, Nat.add_mul, Nat.one_mul, List.range_add, List.map_append]
      congr 1
      simp only [List.flatMap_cons, List.flatMap_nil, List.append_nil, List.map_map]
      apply List.ext_getElem?
      intro i
      rw [List.getElem?_map]
      by_cases hi : i < (enc z).length
      · rw [List.getElem?_range hi]
        simp only [Option.map_some, Function.comp]
        rw [Nat.add_comm, Nat.add_mul_mod_self_right, Nat.mod_eq_of_lt hi, List.getD_eq_getElem?_getD, List.getElem?_eq_getElem hi]
        rfl
      · rw [List.getElem?_eq_none (by simpa using hi), List.getElem?_eq_none (Nat.le_of_not_lt hi)]
        rfl
  unfold zrs blC
  rw [key]
theorem clear_blC {T : Type} {enc : T → List CV} {size : Nat} (hk : ∀ x, (enc x).length = size) (h0 : 0 < size) {t e : TypeId} (ht : P.underlying t = some (.slice e)) {z : T} (hz : tzero P e = some (enc z)) {l : List T} {i : Nat} (hi : i ≤ l.length) {hw : List Hw} :
    aClear P ⟨[⟨false, blC enc l⟩], hw⟩ t (.lsl 0 i (l.length - i) size) = some ⟨[⟨false, blC enc (l.take i ++ List.replicate (l.length - i) z)⟩], hw⟩ := by
  simp only [aClear, ht, lsV, hz]
  by_cases hn : l.length - i = 0
  · rw [hn]
    rw [if_pos (by rfl)]
    rw [List.take_of_length_le (by omega)]
    simp
  · have hb : Nat.beq (l.length - i) 0 = false := by
      rw [Bool.eq_false_iff]
      exact fun e => hn (Nat.eq_of_beq_eq_true e)
    have hle : Nat.ble (i * size + (l.length - i) * size) (blC enc l).length = true := by
      rw [len_blC hk, ← Nat.add_mul, Nat.ble_eq]
      exact Nat.mul_le_mul_right _ (by omega)
    simp only [hb, if_false, List.getElem?_cons_zero, hk, Nat.beq_refl, plainB_blC, hle, Bool.not_false, Bool.and_self, if_true, Bool.false_eq_true]
    rw [zrs_rep z _ (by rw [hk]; exact h0)]
    have e1 : List.drop (i * size + (l.length - i) * size) (blC enc l) = [] := by
      apply List.drop_eq_nil_of_le
      rw [len_blC hk, ← Nat.add_mul]
      exact Nat.mul_le_mul_right _ (by omega)
    rw [e1, List.append_nil]
    unfold blC
    rw [← List.map_take, take_flat hk, ← List.map_append, ← List.flatMap_append]
    rfl
theorem GivesW.freeze {F : FuncId} {args : List AV} {b lo n k : Nat} {m1 : Mm} (h : GivesW P F args m (.lsl b lo n k) m1) {ds : List CV} (hb : m1.hp[b]? = some ⟨false, ds.map .c⟩) :
    GivesW P F args m (.c (.sl false n ((ds.drop (lo * k)).take (n * k)))) { m1 with hp := m1.hp.set b ⟨true, ds.map .c⟩ } := by
  refine ⟨h.1, fun X W0 w vs M hargs => (h.2 X W0 w vs M hargs).mono ?_⟩
  rintro _ w' ⟨v, X1, rfl, k1, k2, k3⟩
  have hz : aFreeze m1 b = some { m1 with hp := m1.hp.set b ⟨true, ds.map .c⟩ } := by
    simp only [aFreeze, hb, cleans_map]
    rfl
  obtain ⟨X2, l1, l2, _⟩ := aFreeze_ok k3 hz
  have hlt := (List.getElem?_eq_some_iff.1 hb).1
  refine ⟨v, X2, rfl, k1.trans l1, ?_, l2⟩
  have k4 := k2.mono l1
  cases k4 with
  | lsl hl ho hn hcap hrm =>
    rename_i β o cap
    have hf : fixedAt { m1 with hp := m1.hp.set b ⟨true, ds.map .c⟩ } (.ptr b (lo * k)) = some (ds.drop (lo * k)) := by
      simp only [fixedAt, List.getElem?_set_self hlt, if_true, cleans_map, Option.map_some]
    obtain ⟨b', o', xs, e, r1, r2⟩ := fixedAt_rep l2 hf (.ptr hl)
    injection e with e
    injection e with e
    injection e with e1 e2
    subst e1 e2
    have q1 := r1.take (n * k)
    have q2 := r2.take (n * k)
    refine .c (.sl q1.1 q1.2 hn ⟨hcap, fun e => by cases e⟩ (fun e => by cases e) ?_)
    rcases Nat.eq_zero_or_pos cap with h0 | h0
    · have : n = 0 := by omega
      subst this
      rw [Nat.zero_mul, List.take_zero]
      exact fun j x h => by cases h
    · rw [ho h0]
      exact q2
attribute [go_sem] plainB_blC
end Go.Vs.Ab
namespace Go.Vs.Ab
open Go.RowKit
variable {P : Program} {X : Mem} {W0 w w' : World} {m : Mm} {nt : Nat} {fr : Fr} {Q : Ex → Fr → Mm → Prop}
def allV : List CV → Bool
  | [] => true
  | .v _ :: r => allV r
  | .sl .. :: _ => false
def free : AV → Bool
  | .c (.v _) => true
  | .agg cs => allV cs
  | .ptr _ _ => true
  | .mapp _ => true
  | _ => false
def frees : List AV → Bool
  | [] => true
  | c :: r => free c && frees r
def freeB : List Blk → Bool
  | [] => true
  | b :: r => !b.fz && (frees b.cs && freeB r)
theorem allV_rep {C D : Nat → Nat → Option Value} : ∀ {cs : List CV} {xs : List Value}, allV cs = true → RepCs C cs xs → RepCs D cs xs := fun {cs xs} h hr => by
  refine ⟨hr.1, fun i c x h1 h2 => ?_⟩
  have key : ∀ {cs : List CV} (i : Nat) (c : CV), allV cs = true → cs[i]? = some c → ∃ v, c = .v v := fun {cs} => by
    induction cs with
    | nil => intro i c _ h; simp at h
    | cons d r ih =>
      intro i c ha hc
      cases d with
      | v x =>
        cases i with
        | zero => simp at hc; exact ⟨x, hc.symm⟩
        | succ i => exact ih i c ha (by simpa using hc)
      | sl => cases ha
  obtain ⟨v, rfl⟩ := key i c h h1
  have := hr.2 i _ x h1 h2
  cases this with
  | v h => exact .v h
theorem Rep.free {Y : Mem} {c : AV} {x : Value} (h : Rep X c x) (hf : Ab.free c = true) (hl : ∀ i β, X.loc i = some β → Y.loc i = some β) : Rep Y c x := by
  cases h with
  | c h =>
    cases h with
    | v h => exact .c (.v h)
    | sl => cases hf
  | agg h => exact .agg (allV_rep hf h)
  | ptr h => exact .ptr (hl _ _ h)
  | mapp h => exact .mapp (hl _ _ h)
  | tup => cases hf
  | own => cases hf
  | cptr => cases hf
  | fn => cases hf
  | lsl => cases hf
  | ifc => cases hf
  | strc => cases hf
theorem frees_get : ∀ {cs : List AV}, frees cs = true → ∀ (k : Nat) (c : AV), cs[k]? = some c → free c = true
  | [], _, k, c, h => by simp at h
  | x :: r, h, k, c, hc => by
    simp only [frees, Bool.and_eq_true] at h
    cases k with
    | zero => simp at hc; subst hc; exact h.1
    | succ k => exact frees_get h.2 k c (by simpa using hc)
theorem freeB_get : ∀ {bs : List Blk}, freeB bs = true → ∀ (k : Nat) (b : Blk), bs[k]? = some b → b.fz = false ∧ frees b.cs = true
  | [], _, k, b, h => by simp at h
  | x :: r, h, k, b, hb => by
    simp only [freeB, Bool.and_eq_true, Bool.not_eq_true'] at h
    cases k with
    | zero => simp at hb; subst hb; exact ⟨h.1, h.2.1⟩
    | succ k => exact freeB_get h.2.2 k b (by simpa using hb)
def Mem.old (X : Mem) (base : Nat) : Mem := ⟨fun b o => if b < base then X.cell b o else none, X.loc, fun _ => none, X.room⟩
theorem MR.old (M : MR X W0 m w) (hb : freeB m.hp = true) : MR (X.old W0.heap.size) W0 ⟨m.hp, []⟩ w := by
  have hsub : ∀ b o x, (X.old W0.heap.size).cell b o = some x → X.cell b o = some x := fun b o x h => by
    simp only [Mem.old] at h
    split at h
    · exact h
    · cases h
  have hno : ∀ β, (∀ o, X.cell β o = none) → ∀ o, (X.old W0.heap.size).cell β o = none := fun β h o => by
    simp only [Mem.old]
    split
    · exact h o
    · rfl
  refine ⟨M.below, fun b o x h => M.cell b o x (hsub b o x h), M.ldom, fun i blk h => ?_, M.inj, fun k T h => (by cases h), fun k n h => (by simp at h), fun i j S T h => (by cases h), M.gl, M.rm⟩
  obtain ⟨β, h1, h2, h3, hB⟩ := M.locs i blk h
  obtain ⟨hfz, hfr⟩ := freeB_get hb i blk h
  refine ⟨β, h1, h2, h3, ?_⟩
  cases hB with
  | dead h => exact .dead h
  | ent g1 g2 g3 g4 g5 => exact .ent g1 g2 g3 g4 (hno β g5)
  | bld g1 => rw [g1] at hfr; cases hfr
  | byt g1 => rw [g1] at hfr; cases hfr
  | cells g1 g2 g3 g4 g5 =>
    refine .cells g1 g2 ⟨g3.1, fun k c x q1 q2 => (g3.2 k c x q1 q2).free (frees_get hfr k c q1) fun _ _ h => h⟩ (fun e => by rw [hfz] at e; cases e) (fun e => hno β (g5 e))
end Go.Vs.Ab
