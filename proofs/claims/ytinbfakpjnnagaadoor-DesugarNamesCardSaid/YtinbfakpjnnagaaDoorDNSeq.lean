/-
  A region that draws its order, walked once in the order of the text: the operations that run code or write ('loud') come up alone; all others yield one value in every world of a class S, or are not wanted. No program in sight.
-/
import Derived.WalkKit
import Derived.OrdersHeld
import Derived.Still
namespace Go.Vs
def NoP (Q : Exit → Act → World → Prop) : Exit → Act → World → Prop
  | .normal, a, w => Q .normal a w
  | .outgrown, a, w => Q .outgrown a w
  | _, _, _ => False
theorem NoP.le {Q : Exit → Act → World → Prop} : ∀ e a w, NoP Q e a w → Q e a w
  | .normal, _, _, h => h
  | .exit _, _, _, h => h.elim
  | .goto _, _, _, h => h.elim
  | .ret, _, _, h => h.elim
  | .panic _, _, _, h => h.elim
  | .outgrown, _, _, h => h
def plainOp : Op → Bool
  | .move _ | .assign _ | .pick .. | .load .. | .binOp .. | .unOp .. | .convert .. | .slice .. | .fieldAddr .. | .field .. | .indexAddr .. | .index .. | .lookup .. | .extract .. | .makeInterface .. | .build .. | .nilCheck _ => true
  | .call { callee := .builtin .len, .. } | .call { callee := .builtin .cap, .. } => true
  | _ => false
theorem andThen_value {m : Sem Value} {P : Program} {w w' : World} {n : Next} (h : Sem.run P (do pure (.value (← m))) w = .ok n w') : ∃ u, n = .value u := by
  rw [Sem.run_bind] at h
  cases hm : Sem.run P m w with
  | ok a w1 =>
    rw [hm] at h
    simp [Result.andThen] at h
    exact ⟨a, h.1.symm⟩
  | halt x w1 =>
    rw [hm] at h
    simp [Result.andThen] at h
theorem plainOp_value {P : Program} {o : Oper} (hp : plainOp o.op = true) {ρ : Operand → Value} {w w' : World} {n : Next} (h : (execOp ρ o).run P w = .ok n w') : ∃ u, n = .value u := by
  obtain ⟨dst, op, type, pos, after, guard⟩ := o
  cases op <;> first | (simp only [plainOp] at hp; done) | (cases hp; done) | skip
  case call c =>
    obtain ⟨callee, args, argTypes⟩ := c
    cases callee <;> first | (cases hp; done) | skip
    rename_i b
    cases b <;> first | (cases hp; done) | skip
    all_goals
      simp [execOp, resolve, invoke, builtin] at h
      generalize hm : Sem.run P _ w = r at h
      cases r with
      | ok a w1 => simp [Result.andThen] at h; exact ⟨_, h.1.symm⟩
      | halt x w1 => simp [Result.andThen] at h
  case pick c a b =>
    simp only [execOp] at h
    rw [Sem.run_bind] at h
    generalize hm : Sem.run P _ w = r at h
    cases r with
    | ok a w1 => simp [Result.andThen] at h; exact ⟨_, h.1.symm⟩
    | halt x w1 => simp [Result.andThen] at h
  case nilCheck x =>
    simp only [execOp] at h
    split at h
    all_goals first
      | (simp at h; exact ⟨_, h.1.symm⟩)
      | (simp [runtimePanic] at h; done)
      | skip
    split at h
    · simp [runtimePanic] at h
    · rw [Sem.run_bind] at h
      generalize Sem.run P _ w = r at h
      cases r with
      | ok a w1 =>
        simp only [Result.andThen] at h
        rw [Sem.run_bind] at h
        generalize Sem.run P _ w1 = r2 at h
        cases r2 with
        | ok a2 w2 =>
          simp only [Result.andThen] at h
          split at h
          · simp [unsupported] at h
          · simp at h; exact ⟨_, h.1.symm⟩
        | halt x w2 => simp [Result.andThen] at h
      | halt x w1 => simp [Result.andThen] at h
    · simp at h; exact ⟨_, h.1.symm⟩
  case move x => simp [execOp] at h; exact ⟨_, h.1.symm⟩
  case assign x => simp [execOp] at h; exact ⟨_, h.1.symm⟩
  all_goals exact andThen_value h
section
variable {P : Program} {ops : Array Oper} {Q : Exit → Act → World → Prop} {md : Region.Mode} {S : World → Prop}
def yieldsS (P : Program) (ops : Array Oper) (S : World → Prop) (o : Oper) (a : Act) (next : Act → Prop) : Prop := ∃ v, YieldsIf P ops S o v a ∧ next (a.put o.dst v)
def Only (A : Act) (w : World) (e : Exit) (a' : Act) (w' : World) : Prop := e = .normal ∧ a' = A ∧ w' = w
end
end Go.Vs
namespace Go.Vs
/-! ### the same in an order of one's own -/
section
variable {P : Program} {ops : Array Oper} {Q : Exit → Act → World → Prop} {md : Region.Mode} {S : World → Prop}
def wpAnyF (P : Program) (md : Region.Mode) (ops : Array Oper) (Q : Exit → Act → World → Prop) (S : World → Prop) (fin : Nat) : Nat → Array Bool → Act → World → Prop
  | 0, listed, a, w => Region.ready md ops listed = [] ∧ Q .normal a w
  | fuel + 1, listed, a, w =>
    (Region.ready md ops listed = [] → Q .normal a w) ∧
    ∀ i ∈ Region.ready md ops listed, wpOp P ops Q i (fun a' w' => (i ≠ fin → S w') ∧ wpAnyF P md ops Q S fin fuel (listed.setIfInBounds i true) a' w') a w
theorem wpAny_of_F {fin : Nat} : ∀ (fuel : Nat) (listed : Array Bool) (a : Act) (w : World), wpAnyF P md ops Q S fin fuel listed a w → wpAny P md ops Q fuel listed a w
  | 0, _, _, _, h => h
  | fuel + 1, _, _, _, h => ⟨h.1, fun i hi => wpOp_mono (fun a' w' h' => wpAny_of_F fuel _ a' w' h'.2) (h.2 i hi)⟩
def waitsOn (md : Region.Mode) (ops : Array Oper) : Nat → Nat → Nat → Bool
  | 0, _, _ => false
  | n + 1, j, i =>
    match ops[j]? with
    | none => false
    | some o => o.after.any fun e => Region.binds md e && (e.on == i || waitsOn md ops n e.on i)
def finB (md : Region.Mode) (ops : Array Oper) (fin : Nat) : Bool :=
  match ops[fin]? with
  | none => true
  | some _ => (List.range ops.size).all fun i => i == fin || waitsOn md ops ops.size fin i
def Closed (md : Region.Mode) (ops : Array Oper) (listed : Array Bool) : Prop :=
  ∀ (j : Nat) (o : Oper), ops[j]? = some o → listed.getD j false = true → ∀ e ∈ o.after, Region.binds md e = true → listed.getD e.on false = true
theorem Closed.waits {listed : Array Bool} (hc : Closed md ops listed) : ∀ (n j i : Nat), waitsOn md ops n j i = true → (∀ o, ops[j]? = some o → ∀ e ∈ o.after, Region.binds md e = true → listed.getD e.on false = true) → listed.getD i false = true
  | 0, _, _, h, _ => by cases h
  | n + 1, j, i, h, hj => by
    unfold waitsOn at h
    cases ho : ops[j]? with
    | none => rw [ho] at h; cases h
    | some o =>
      rw [ho] at h
      obtain ⟨e, he, hb⟩ := Array.any_eq_true'.1 h
      simp only [Bool.and_eq_true, Bool.or_eq_true, beq_iff_eq] at hb
      have hl := hj o ho e he hb.1
      rcases hb.2 with rfl | h'
      · exact hl
      · exact hc.waits n e.on i h' (fun o' ho' => hc e.on o' ho' hl)
theorem Closed.set {listed : Array Bool} (hc : Closed md ops listed) {k : Nat} (hk : k ∈ Region.ready md ops listed) : Closed md ops (listed.setIfInBounds k true) := by
  intro j o ho hj e he hb
  by_cases hjk : k = j
  · subst hjk
    obtain ⟨_, o', ho', hall⟩ := mem_ready.1 hk
    rw [ho] at ho'
    injection ho' with ho'
    subst ho'
    exact getD_set_true (hall e he hb)
  · refine getD_set_true (hc j o ho ?_ e he hb)
    rwa [getD_set_ne false hjk] at hj
theorem fin_waits {fin i : Nat} {listed : Array Bool} (hc : Closed md ops listed) (hf : finB md ops fin = true) (hi : i < ops.size) (hne : i ≠ fin) (hr : fin ∈ Region.ready md ops listed) : listed.getD i false = true := by
  obtain ⟨_, o, ho, hall⟩ := mem_ready.1 hr
  unfold finB at hf
  rw [ho] at hf
  simp only [List.all_eq_true, List.mem_range, Bool.or_eq_true, beq_iff_eq] at hf
  rcases hf i hi with h | h
  · exact absurd h hne
  · refine hc.waits _ fin i h (fun o' ho' => ?_)
    rw [ho] at ho'
    injection ho' with ho'
    subst ho'
    exact hall
theorem listed_not {i : Nat} {listed : Array Bool} (h1 : listed.getD i false = true) (h0 : listed.getD i true = false) : False := by
  rcases Nat.lt_or_ge i listed.size with h' | h'
  · simp [h'] at h0 h1
    rw [h0] at h1
    cases h1
  · simp [Array.getElem?_eq_none h'] at h1
theorem wpAnyF_first {fin i : Nat} {oi : Oper} {v : Value} (hfin : finB md ops fin = true) (hi : ops[i]? = some oi) (hsel : ∀ (j : Nat) (o : Oper) cs b, ops[j]? = some o → o.op ≠ .select cs b) (hif : i ≠ fin)
    (hQ : ∀ c a w, Q (.panic c) (a.put oi.dst v) w → Q (.panic c) a w) :
    ∀ (fuel : Nat) (listed : Array Bool) (a : Act) (w : World), Closed md ops listed →
      (∀ j oj, ops[j]? = some oj → j ≠ i → listed.getD j true = false → (∀ e ∈ oj.after, Region.binds md e = true → e.on ≠ i) → oi.apart ops oj = true) →
      i ∈ Region.ready md ops listed → YieldsIf P ops S oi v a → S w →
      wpAnyF P md ops Q S fin fuel (listed.setIfInBounds i true) (a.put oi.dst v) w → wpAnyF P md ops Q S fin (fuel + 1) listed a w := by
  have hlt : i < ops.size := (Array.getElem?_eq_some_iff.1 hi).1
  intro fuel
  induction fuel with
  | zero =>
    intro listed a w _ _ hr hy hS H
    refine ⟨fun h => (by rw [h] at hr; cases hr), fun j hj => ?_⟩
    by_cases hji : j = i
    · subst hji; exact hy.wpOp hi hS ⟨fun _ => hS, H⟩
    · have := ready_mono hj hji
      rw [H.1] at this
      cases this
  | succ fuel ih =>
    intro listed a w hc hfree hr hy hS H
    refine ⟨fun h => (by rw [h] at hr; cases hr), fun j hj => ?_⟩
    by_cases hji : j = i
    · subst hji; exact hy.wpOp hi hS ⟨fun _ => hS, H⟩
    · have hun := (mem_ready.1 hr).1
      have hjf : j ≠ fin := fun e => listed_not (fin_waits hc hfin hlt hif (e ▸ hj)) hun
      have h1 := H.2 j (ready_mono hj hji)
      obtain ⟨hjun, oj, hoj, hall⟩ := mem_ready.1 hj
      have hnot : ∀ e ∈ oj.after, Region.binds md e = true → e.on ≠ i := fun e he hb heq => listed_not (heq ▸ hall e he hb) hun
      have h2 := wpOp_putIf hoj (hfree j oj hoj hji hjun hnot) (fun cs b => hsel i oi cs b hi) (fun cs b => hsel j oj cs b hoj) hQ hy h1
      have hfree' : ∀ k ok, ops[k]? = some ok → k ≠ i → (listed.setIfInBounds j true).getD k true = false →
          (∀ e ∈ ok.after, Region.binds md e = true → e.on ≠ i) → oi.apart ops ok = true := fun k ok hk hki hun hno => by
        refine hfree k ok hk hki ?_ hno
        by_cases hjk : j = k
        · subst hjk; exact hjun
        · rw [getD_set_ne true hjk] at hun; exact hun
      refine wpOp_mono (fun a' w' h3 => ⟨h3.2.1, ih (listed.setIfInBounds j true) a' w' (hc.set hj) hfree' (ready_mono hr (Ne.symm hji)) h3.1 (h3.2.1 hjf) ?_⟩) h2
      rw [Array.setIfInBounds_comm _ _ hji]
      exact h3.2.2
def Then (b : Bool) (S : World → Prop) (K : Act → World → Prop) (Q : Exit → Act → World → Prop) : Exit → Act → World → Prop
  | .normal, a, w => (b = true → S w) ∧ K a w
  | .outgrown, a, w => Q .outgrown a w
  | _, _, _ => False
def wpOrd (P : Program) (ops : Array Oper) (Q : Exit → Act → World → Prop) (S : World → Prop) (fin : Nat) (loud : List Nat) : List Nat → Act → World → Prop
  | [], a, w => Q .normal a w
  | k :: rest, a, w => ∃ o, ops[k]? = some o ∧
    if loud.contains k = true then wpList P ops (Then (k != fin) S (wpOrd P ops Q S fin loud rest) Q) [o] a w
    else yieldsS P ops S o a (fun a' => wpOrd P ops Q S fin loud rest a' w)
def ordFrom (md : Region.Mode) (ops : Array Oper) (loud : List Nat) : List Nat → Array Bool → Bool
  | [], listed => (Region.ready md ops listed).isEmpty
  | k :: rest, listed => (if loud.contains k then Region.ready md ops listed == [k] else (Region.ready md ops listed).contains k && Region.free md ops listed k) && ordFrom md ops loud rest (listed.setIfInBounds k true)
theorem then_up {k fin : Nat} {rest : List Nat} {loud : List Nat} {listed : Array Bool} {fuel : Nat}
    (next : ∀ a' w', (k ≠ fin → S w') → wpOrd P ops (NoP Q) S fin loud rest a' w' → wpAnyF P md ops (NoP Q) S fin fuel (listed.setIfInBounds k true) a' w') (c : Oper) (a1 : Act) (w1 : World)
    (hc : Oper.wp P c a1 w1 (fun a' w' => ((k != fin) = true → S w') ∧ wpOrd P ops (NoP Q) S fin loud rest a' w') (Then (k != fin) S (wpOrd P ops (NoP Q) S fin loud rest) (NoP Q))) :
    Oper.wp P c a1 w1 (fun a' w' => (k ≠ fin → S w') ∧ wpAnyF P md ops (NoP Q) S fin fuel (listed.setIfInBounds k true) a' w') (NoP Q) := by
  have nx : ∀ a' w', (((k != fin) = true → S w') ∧ wpOrd P ops (NoP Q) S fin loud rest a' w') → ((k ≠ fin → S w') ∧ wpAnyF P md ops (NoP Q) S fin fuel (listed.setIfInBounds k true) a' w') := fun a' w' h =>
    ⟨fun hk => h.1 (by simpa using hk), next a' w' (fun hk => h.1 (by simpa using hk)) h.2⟩
  unfold Oper.wp at *
  generalize (execOp a1.eval c).run P w1 = r at *
  have lets : LetsOut (Then (k != fin) S (wpOrd P ops (NoP Q) S fin loud rest) (NoP Q)) → LetsOut (NoP Q) := fun ⟨a2, w2, h2⟩ => ⟨a2, w2, h2⟩
  cases r with
  | ok n w' =>
    cases n <;> simp only [Oper.upon] at hc ⊢ <;>
      first
        | exact nx _ _ hc
        | exact Calls.mono hc (fun e w'' he => by cases e <;> first | exact nx _ _ he | exact he.elim | exact lets he)
        | exact Rows.mono hc (fun _ _ he => nx _ _ he)
  | halt x w' =>
    cases x <;> simp only [Oper.upon] at hc ⊢
    all_goals exact hc.elim
theorem wpAnyF_of_ord {fin : Nat} (hfin : finB md ops fin = true) (hsel : Region.noSelect ops = true) {loud : List Nat} (hfl : loud.contains fin = true ∨ ops.size ≤ fin) : ∀ (ord : List Nat) (listed : Array Bool) (a : Act) (w : World), Closed md ops listed →
    ordFrom md ops loud ord listed = true → (ord ≠ [] → S w) → wpOrd P ops (NoP Q) S fin loud ord a w → wpAnyF P md ops (NoP Q) S fin ord.length listed a w
  | [], _, _, _, _, hB, _, h => ⟨by simpa [ordFrom] using hB, h⟩
  | k :: rest, listed, a, w, hc, hB, hS, h => by
    have hS := hS (by simp)
    simp only [ordFrom, Bool.and_eq_true] at hB
    obtain ⟨hk1, hB'⟩ := hB
    unfold wpOrd at h
    obtain ⟨o, h0, h⟩ := h
    have hk0 : k < ops.size := (Array.getElem?_eq_some_iff.1 h0).1
    by_cases hk : loud.contains k = true
    · rw [if_pos hk] at h hk1
      have hready : Region.ready md ops listed = [k] := by simpa using hk1
      have next : ∀ a' w', (k ≠ fin → S w') → wpOrd P ops (NoP Q) S fin loud rest a' w' → wpAnyF P md ops (NoP Q) S fin rest.length (listed.setIfInBounds k true) a' w' := fun a' w' hS' h' => by
        refine wpAnyF_of_ord hfin hsel hfl rest _ a' w' (hc.set (by rw [hready]; simp)) hB' (fun hr => ?_) h'
        refine hS' fun e => ?_
        subst e
        obtain ⟨j, rest', rfl⟩ := List.exists_cons_of_ne_nil hr
        have hj : j ∈ Region.ready md ops (listed.setIfInBounds k true) := by
          simp only [ordFrom, Bool.and_eq_true] at hB'
          obtain ⟨hj1, _⟩ := hB'
          split at hj1
          · rw [beq_iff_eq.1 hj1]; simp
          · simp only [Bool.and_eq_true] at hj1
            simpa using hj1.1
        obtain ⟨hjun, oj, hoj, _⟩ := mem_ready.1 hj
        have hjk : j ≠ k := fun e => by
          subst e
          have hls : j < listed.size ∨ listed.size ≤ j := Nat.lt_or_ge j listed.size
          rcases hls with hls | hls
          · simp [hls] at hjun
          · simp [hls] at hjun
        have := fin_waits hc hfin (Array.getElem?_eq_some_iff.1 hoj).1 hjk (listed := listed) (by rw [hready]; simp)
        rw [getD_set_ne true (Ne.symm hjk)] at hjun
        exact listed_not this hjun
      refine ⟨fun h => (by rw [hready] at h; cases h), fun i hi => ?_⟩
      rw [hready] at hi
      obtain rfl := List.mem_singleton.1 hi
      unfold wpOp
      simp only [h0]
      simp only [wpList] at h
      by_cases hw : Region.wanted o (yielded ops a.tmps) = true
      · rw [if_pos hw] at h ⊢
        rcases h with h | ⟨h1, a2, w2, h2⟩
        · exact .inl (then_up next _ _ _ h)
        · exact .inr ⟨h1, a2, w2, h2⟩
      · rw [if_neg hw] at h ⊢
        exact ⟨fun hk => h.1 (by simpa using hk), next _ _ (fun hk => h.1 (by simpa using hk)) h.2⟩
    · have hkf : k ≠ fin := fun e => by
        rcases hfl with hfl | hfl
        · rw [e] at hk; exact hk hfl
        · omega
      rw [if_neg hk] at h hk1
      simp only [Bool.and_eq_true] at hk1
      obtain ⟨v, hv, h'⟩ := h
      exact wpAnyF_first hfin h0 (Region.noSelect_spec hsel) hkf (fun _ _ _ h => h.elim) rest.length listed a w hc (Region.free_spec h0 hk1.2) (by simpa using hk1.1) hv hS (wpAnyF_of_ord hfin hsel hfl rest _ _ _ (hc.set (by simpa using hk1.1)) hB' (fun _ => hS) h')
def ordB (l : List Oper) (fin : Nat) (loud ord : List Nat) : Bool :=
  Region.noSelect l.toArray && (ord.length == l.length && ((loud.contains fin || decide (l.length ≤ fin)) && (finB .any l.toArray fin && ordFrom .any l.toArray loud ord (Array.replicate l.length false))))
theorem wp_region_ord {id : Nat} {a : Act} {w : World} {l : List Oper} (fin : Nat) (loud ord : List Nat) (S : World → Prop) (hm : P.follows .mixedOrders = true) (hB : ordB l fin loud ord = true) (hS : S w.drew)
    (h : wpOrd P l.toArray (NoP Q) S fin loud ord a w.drew) : (Code.region id l.toArray true).wp P Q a w := by
  unfold ordB at hB
  simp only [Bool.and_eq_true, Bool.or_eq_true, beq_iff_eq, decide_eq_true_eq] at hB
  obtain ⟨hsel, hlen, hfl, hfin, hB⟩ := hB
  refine wp_mono (wp_region_any (Q := NoP Q) hm (wpAny_of_F (S := S) (fin := fin) _ _ _ _ ?_)) NoP.le
  have := wpAnyF_of_ord (md := .any) hfin hsel (by simpa using hfl) ord (Array.replicate l.length false) a w.drew (fun j o _ hj => by rw [Array.getD_eq_getD_getElem?, Array.getElem?_replicate] at hj; split at hj <;> cases hj) hB (fun _ => hS) h
  rw [hlen] at this
  simpa using this
theorem wpOrd_end {fin : Nat} {loud : List Nat} {a : Act} {w : World} (h : Q .normal a w) : wpOrd P ops (NoP Q) S fin loud [] a w := h
theorem wpOrd_loud {fin : Nat} {loud rest : List Nat} {k : Nat} {a : Act} {w : World} {o : Oper} (ho : ops[k]? = some o) (hk : loud.contains k = true)
    (h : wpList P ops (Then (k != fin) S (wpOrd P ops Q S fin loud rest) Q) [o] a w) : wpOrd P ops Q S fin loud (k :: rest) a w := by
  unfold wpOrd
  exact ⟨o, ho, by rw [if_pos hk]; exact h⟩
theorem yields_of {d : Nat} {a A : Act} {w : World} {o : Oper} (hp : plainOp o.op = true) (hd : o.dst = some d) (hlt : Nat.blt d a.tmps.size = true) (hS : S w)
    (hy : ∀ w', S w' → wpList P ops (Only A w') [o] a w') : ∃ v, YieldsIf P ops S o v a ∧ a.put o.dst v = A := by
  have hlt' : d < a.tmps.size := by have h0 := hlt; simp only [Nat.blt, Nat.ble_eq] at h0; exact h0
  have key : ∀ w', S w' → Region.wanted o (yielded ops a.tmps) = true → ∃ u, (execOp a.eval o).run P w' = .ok (.value u) w' ∧ a.put o.dst u = A := by
    intro w' hS' hw
    have := hy w' hS'
    simp only [wpList] at this
    rw [if_pos hw] at this
    rcases this with this | ⟨_, _, _, h1, _⟩
    · unfold Oper.wp at this
      cases hr : (execOp a.eval o).run P w' with
      | ok n w1 =>
        obtain ⟨u, rfl⟩ := plainOp_value hp hr
        rw [hr] at this
        obtain ⟨_, h1, h2⟩ := this
        exact ⟨u, by rw [h2], h1⟩
      | halt x w1 =>
        rw [hr] at this
        cases x <;> first | exact this.elim | (obtain ⟨h1, _⟩ := this; cases h1)
    · cases h1
  by_cases hw : Region.wanted o (yielded ops a.tmps) = true
  · obtain ⟨u, h1, h2⟩ := key w hS hw
    refine ⟨u, Or.inl ⟨hw, fun w' hS' => ?_⟩, h2⟩
    obtain ⟨u', h3, h4⟩ := key w' hS' hw
    have : u' = u := by
      rw [← h2, hd] at h4
      simp only [Act.put, Act.mk.injEq] at h4
      have h5 := congrArg (fun t : Array Value => t[d]?) h4.1
      simpa [hlt'] using h5
    rw [h3, this]
  · have := hy w hS
    simp only [wpList] at this
    rw [if_neg hw] at this
    obtain ⟨_, h1, _⟩ := this
    exact ⟨undef, Or.inr ⟨by simpa using hw, rfl⟩, h1⟩
theorem wpOrd_one {fin : Nat} {loud rest : List Nat} {k d : Nat} {a : Act} {w : World} {o : Oper} (ho : ops[k]? = some o) (hk : loud.contains k = false) (hp : plainOp o.op = true) (hd : o.dst = some d) (hlt : Nat.blt d a.tmps.size = true) (hS : S w)
    (h : ∃ A, (∀ w', S w' → wpList P ops (Only A w') [o] a w') ∧ wpOrd P ops Q S fin loud rest A w) : wpOrd P ops Q S fin loud (k :: rest) a w := by
  obtain ⟨A, hy, hn⟩ := h
  unfold wpOrd
  refine ⟨o, ho, ?_⟩
  rw [if_neg (by rw [hk]; exact Bool.false_ne_true)]
  obtain ⟨v, h1, h2⟩ := yields_of hp hd hlt hS hy
  exact ⟨v, h1, by rw [h2]; exact hn⟩
end
end Go.Vs
namespace Go.Vs
/-! ### a plain region, one operation at a time -/
section
variable {P : Program} {ops : Array Oper} {Q : Exit → Act → World → Prop}
end
end Go.Vs
