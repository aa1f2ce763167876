/-
  Code on abstract values, as a proposition: calls by what is known of the callee, loops by a family of states. No program in sight.
-/
import Derived.Test.YtinbfakpjnnagaaDoorDNAj
namespace Go.Vs.Ab
open Go.RowKit
variable {P : Program} {X : Mem} {W0 w w' : World} {m : Mm}
def Does (P : Program) (F : FuncId) (args : List AV) (f : Mm → AV × Mm) : Prop := Callable P F ∧ ∀ X W0 m w vs, MR X W0 m w → Reps X args vs.toList →
  Calls P F vs w fun e w' => ∃ v X', e = .returned v ∧ X.Le W0.heap.size X' ∧ Rep X' (f m).1 v ∧ MR X' W0 (f m).2 w' ∧ ∀ i β, X.loc i = some β → w'.heap[β]? = w.heap[β]?
def PutW (nt : Nat) (fr : Fr) (dst : Option Tmp) (c : AV) (K : Fr → Prop) : Prop :=
  match dst with
  | none => K fr
  | some d => Nat.blt d nt = true ∧ K (ins fr d c)
def mk (x : List AV) : List AV := x
theorem mk_eq (x : List AV) : mk x = x := rfl
def Gives (P : Program) (F : FuncId) (args : List AV) (m : Mm) (r : AV) (m' : Mm) : Prop := Callable P F ∧ ∀ X W0 w vs, MR X W0 m w → Reps X args vs.toList →
  Calls P F vs w fun e w' => ∃ v X', e = .returned v ∧ X.Le W0.heap.size X' ∧ Rep X' r v ∧ MR X' W0 m' w' ∧ ∀ i β, X.loc i = some β → w'.heap[β]? = w.heap[β]?
theorem Does.gives {F : FuncId} {args args' : List AV} {f : Mm → AV × Mm} {m : Mm} (h : Does P F args' f) (hs : shuts args = some args') : Gives P F args m (f m).1 (f m).2 :=
  ⟨h.1, fun X W0 w vs M ha => h.2 X W0 m w vs M (shuts_rep rfl hs ha)⟩
def GivesW (P : Program) (F : FuncId) (args : List AV) (m : Mm) (r : AV) (m' : Mm) : Prop := Callable P F ∧ ∀ X W0 w vs, MR X W0 m w → Reps X args vs.toList →
  Calls P F vs w fun e w' => ∃ v X', e = .returned v ∧ X.Le W0.heap.size X' ∧ Rep X' r v ∧ MR X' W0 m' w'
def CallW (P : Program) (F : FuncId) (args : List AV) (m : Mm) (K : Kind → AV → Mm → Prop) : Prop := ∃ r m', (Gives P F args m r m' ∧ K .loud r m') ∨ (GivesW P F args m r m' ∧ K .store r m')
@[congr] theorem callW_congr {P : Program} {F : FuncId} {a b : List AV} {m m' : Mm} {K : Kind → AV → Mm → Prop} (h : a = b) (hm : m = m') : CallW P F a m K = CallW P F b m' K := by rw [h, hm]
def EvW (P : Program) (nt : Nat) (fr : Fr) (m : Mm) (dst : Option Tmp) (K : Kind → Fr → Mm → Prop) : Option Ev → Prop
  | none => False
  | some (.calm c) => PutW nt fr dst c fun fr' => K .calm fr' m
  | some (.frz c m') => PutW nt fr dst c fun fr' => K .calm fr' m'
  | some (.loud c m') => PutW nt fr dst c fun fr' => K .loud fr' m'
  | some (.store m') => PutW nt fr dst (.tup []) fun fr' => K .store fr' m'
  | some (.wr c m') => PutW nt fr dst c fun fr' => K .store fr' m'
  | some (.call F args) => CallW P F (mk args) m fun kd r m' => PutW nt fr dst r fun fr' => K kd fr' m'
def OpW (P : Program) (nt : Nat) (fr : Fr) (m : Mm) (o : Oper) (K : Kind → Fr → Mm → Prop) : Option Bool → Prop
  | none => False
  | some false => PutW nt fr o.dst (.tup []) fun fr' => K .calm fr' m
  | some true => EvW P nt fr m o.dst K (evOp P fr m o)
def StepW (P : Program) (nt : Nat) (ops : Array Oper) (o : Oper) (fr : Fr) (m : Mm) (K : Kind → Fr → Mm → Prop) : Prop := OpW P nt fr m o K (aWanted ops fr o)
@[congr] theorem stepW_congr {P : Program} {nt : Nat} {ops : Array Oper} {o : Oper} {fr : Fr} {m m' : Mm} {K : Kind → Fr → Mm → Prop} (h : m = m') : StepW P nt ops o fr m K = StepW P nt ops o fr m' K := by rw [h]
@[congr] theorem opW_congr {P : Program} {nt : Nat} {o : Oper} {fr : Fr} {m : Mm} {K : Kind → Fr → Mm → Prop} {a b : Option Bool} (h : a = b) : OpW P nt fr m o K a = OpW P nt fr m o K b := by rw [h]
@[congr] theorem evW_congr {P : Program} {nt : Nat} {dst : Option Tmp} {fr : Fr} {m : Mm} {K : Kind → Fr → Mm → Prop} {a b : Option Ev} (h : a = b) : EvW P nt fr m dst K a = EvW P nt fr m dst K b := by rw [h]
@[congr] theorem putW_congr {nt : Nat} {fr : Fr} {dst : Option Tmp} {c d : AV} {K : Fr → Prop} (h : c = d) : PutW nt fr dst c K = PutW nt fr dst d K := by rw [h]
def SeqW (P : Program) (nt : Nat) (ops : Array Oper) : List Oper → Fr → Mm → (Fr → Mm → Prop) → Prop
  | [], fr, m, Q => Q fr m
  | o :: r, fr, m, Q => StepW P nt ops o fr m fun _ fr' m' => SeqW P nt ops r fr' m' Q
def OrdW (P : Program) (nt : Nat) (ops : Array Oper) (loud : List Nat) (fin : Nat) : List Nat → Fr → Mm → (Fr → Mm → Prop) → Prop
  | [], fr, m, Q => Q fr m
  | i :: r, fr, m, Q => match ops[i]? with
    | none => False
    | some o => StepW P nt ops o fr m fun kd fr' m' => okKind loud fin i r.isEmpty kd = true ∧ OrdW P nt ops loud fin r fr' m' Q
theorem stepW_eq {nt : Nat} {ops : Array Oper} {o : Oper} {fr : Fr} {K : Kind → Fr → Mm → Prop} : StepW P nt ops o fr m K = OpW P nt fr m o K (aWanted ops fr o) := rfl
theorem opW_none {nt : Nat} {o : Oper} {fr : Fr} {K : Kind → Fr → Mm → Prop} : OpW P nt fr m o K none = False := rfl
theorem opW_false {nt : Nat} {o : Oper} {fr : Fr} {K : Kind → Fr → Mm → Prop} : OpW P nt fr m o K (some false) = PutW nt fr o.dst (.tup []) fun fr' => K .calm fr' m := rfl
theorem opW_true {nt : Nat} {o : Oper} {fr : Fr} {K : Kind → Fr → Mm → Prop} : OpW P nt fr m o K (some true) = EvW P nt fr m o.dst K (evOp P fr m o) := rfl
theorem evW_calm {nt : Nat} {dst : Option Tmp} {fr : Fr} {K : Kind → Fr → Mm → Prop} {c : AV} : EvW P nt fr m dst K (some (.calm c)) = PutW nt fr dst c fun fr' => K .calm fr' m := rfl
theorem evW_frz {nt : Nat} {dst : Option Tmp} {fr : Fr} {K : Kind → Fr → Mm → Prop} {c : AV} {m' : Mm} : EvW P nt fr m dst K (some (.frz c m')) = PutW nt fr dst c fun fr' => K .calm fr' m' := rfl
theorem evW_loud {nt : Nat} {dst : Option Tmp} {fr : Fr} {K : Kind → Fr → Mm → Prop} {c : AV} {m' : Mm} : EvW P nt fr m dst K (some (.loud c m')) = PutW nt fr dst c fun fr' => K .loud fr' m' := rfl
theorem evW_store {nt : Nat} {dst : Option Tmp} {fr : Fr} {K : Kind → Fr → Mm → Prop} {m' : Mm} : EvW P nt fr m dst K (some (.store m')) = PutW nt fr dst (.tup []) fun fr' => K .store fr' m' := rfl
theorem evW_wr {nt : Nat} {dst : Option Tmp} {fr : Fr} {K : Kind → Fr → Mm → Prop} {c : AV} {m' : Mm} : EvW P nt fr m dst K (some (.wr c m')) = PutW nt fr dst c fun fr' => K .store fr' m' := rfl
theorem evW_call {nt : Nat} {dst : Option Tmp} {fr : Fr} {K : Kind → Fr → Mm → Prop} {F : FuncId} {args : List AV} : EvW P nt fr m dst K (some (.call F args)) = CallW P F (mk args) m fun kd r m' => PutW nt fr dst r fun fr' => K kd fr' m' := rfl
theorem putW_some {nt : Nat} {fr : Fr} {d : Tmp} {c : AV} {K : Fr → Prop} : PutW nt fr (some d) c K = (Nat.blt d nt = true ∧ K (ins fr d c)) := rfl
theorem putW_none {nt : Nat} {fr : Fr} {c : AV} {K : Fr → Prop} : PutW nt fr none c K = K fr := rfl
def SeqC (P : Program) (nt : Nat) (ops : Array Oper) : List Oper → Fr → Mm → (Fr → Mm → Prop) → Prop
  | [], fr, m, Q => Q fr m
  | o :: r, fr, m, Q => StepW P nt ops o fr m fun kd fr' m' => isCalm kd = true ∧ SeqC P nt ops r fr' m' Q
theorem ordW_of_seqC {nt : Nat} {ops : Array Oper} {fin : Nat} {R : Fr → Mm → Prop} : ∀ (l : List Oper) (k : Nat) {fr : Fr} {m : Mm}, (∀ j, l[j]? = ops[k + j]?) → SeqC P nt ops l fr m R → OrdW P nt ops [] fin (List.range' k l.length) fr m R
  | [], k, fr, m, _, h => h
  | o :: r, k, fr, m, hl, h => by
    rw [List.length_cons, List.range'_succ]
    unfold OrdW
    have h0 : ops[k]? = some o := by simpa using (hl 0).symm
    simp only [h0]
    have up : ∀ kd fr' m', (isCalm kd = true ∧ SeqC P nt ops r fr' m' R) → (okKind [] fin k (List.range' (k + 1) r.length).isEmpty kd = true ∧ OrdW P nt ops [] fin (List.range' (k + 1) r.length) fr' m' R) := fun kd fr' m' hk =>
      ⟨by simpa [okKind] using hk.1, ordW_of_seqC r (k + 1) (fun j => by have := hl (j + 1); simpa [Nat.add_assoc, Nat.add_comm 1 j] using this) hk.2⟩
    unfold SeqC StepW at h
    unfold StepW
    generalize aWanted ops fr o = b at *
    have put : ∀ {c : AV} {kd : Kind} {m' : Mm}, PutW nt fr o.dst c (fun fr' => isCalm kd = true ∧ SeqC P nt ops r fr' m' R) → PutW nt fr o.dst c (fun fr' => okKind [] fin k (List.range' (k + 1) r.length).isEmpty kd = true ∧ OrdW P nt ops [] fin (List.range' (k + 1) r.length) fr' m' R) := fun {c kd m'} hp => by
      unfold PutW at *
      split at hp
      · exact up _ _ _ hp
      · exact ⟨hp.1, up _ _ _ hp.2⟩
    cases b with
    | none => exact h
    | some b =>
      cases b with
      | false => exact put h
      | true =>
        simp only [OpW] at h ⊢
        generalize evOp P fr m o = e at *
        cases e with
        | none => exact h
        | some e =>
          cases e with
          | calm c => exact put h
          | frz c m' => exact put h
          | loud c m' => exact put h
          | store m' => exact put h
          | wr c m' => exact put h
          | call F args =>
            obtain ⟨r0, m0, ⟨h1, h2⟩ | ⟨h1, h2⟩⟩ := h
            · exact ⟨r0, m0, Or.inl ⟨h1, put h2⟩⟩
            · exact ⟨r0, m0, Or.inr ⟨h1, put h2⟩⟩
theorem putW_ok {nt : Nat} {fr : Fr} {a : Act} (F : FR X nt fr a) {dst : Option Tmp} {c : AV} {x : Value} {K : Fr → Prop} (h : PutW nt fr dst c K) (hr : Rep X c x) : ∃ fr', FR X nt fr' (a.put dst x) ∧ K fr' := by
  unfold PutW at h
  split at h
  · exact ⟨fr, F, h⟩
  · exact ⟨_, F.ins (by simpa using h.1) hr, h.2⟩
theorem stepW_wp {nt : Nat} {fr : Fr} {a : Act} {ops : Array Oper} {i : Nat} {o : Oper} (ho : ops[i]? = some o) (F : FR X nt fr a) (M : MR X W0 m w) {KK : Kind → Fr → Mm → Prop} (h : StepW P nt ops o fr m KK)
    {K : Act → World → Prop} {Q : Exit → Act → World → Prop} (hK : ∀ kd fr' m' a' w' X', KK kd fr' m' → X.Le W0.heap.size X' → FR X' nt fr' a' → MR X' W0 m' w' → (kd ≠ .store → ∀ i β, X.loc i = some β → w'.heap[β]? = w.heap[β]?) → K a' w') : wpOp P ops Q i K a w := by
  unfold StepW OpW at h
  unfold wpOp
  simp only [ho]
  split at h
  · exact h.elim
  · rename_i hw
    rw [if_neg (by rw [aWanted_ok F hw]; exact Bool.false_ne_true)]
    obtain ⟨fr', h1, h2⟩ := putW_ok F h rep_undef
    exact hK _ _ _ _ _ X h2 (Mem.Le.refl _ _) h1 M (fun _ _ _ _ => rfl)
  · rename_i hw
    rw [if_pos (aWanted_ok F hw)]
    refine Or.inl ?_
    unfold EvW at h
    split at h
    · exact h.elim
    · rename_i c he
      obtain ⟨V, g1, g2⟩ := evOp_ok F M he
      obtain ⟨fr', h1, h2⟩ := putW_ok F h g1
      unfold Oper.wp
      rw [g2 w (ag_self M)]
      exact hK _ _ _ _ _ X h2 (Mem.Le.refl _ _) h1 M (fun _ _ _ _ => rfl)
    · rename_i c m1 he
      obtain ⟨X', V, g1, g2, g3, g4⟩ := evOp_ok F M he
      obtain ⟨fr', h1, h2⟩ := putW_ok (F.mono g1) h g3
      unfold Oper.wp
      rw [(g4 w (ag_self M)).2]
      exact hK _ _ _ _ _ X' h2 g1 h1 g2 (fun _ _ _ _ => rfl)
    · rename_i c m1 he
      obtain ⟨V, X', w', g1, g2, g3, g4, g5⟩ := evOp_ok F M he
      obtain ⟨fr', h1, h2⟩ := putW_ok (F.mono g2) h g3
      unfold Oper.wp
      rw [g1]
      exact hK _ _ _ _ _ X' h2 g2 h1 g4 (fun _ => g5)
    · rename_i m1 he
      obtain ⟨w', g1 | g1, g2⟩ := evOp_ok F M he
      all_goals
        obtain ⟨fr', h1, h2⟩ := putW_ok F h rep_undef
        unfold Oper.wp
        rw [g1]
        exact hK _ _ _ _ _ X h2 (Mem.Le.refl _ _) h1 g2 (fun hne => absurd rfl hne)
    · rename_i c m1 he
      obtain ⟨V, X', w', g1, g2, g3, g4⟩ := evOp_ok F M he
      obtain ⟨fr', h1, h2⟩ := putW_ok (F.mono g2) h g3
      unfold Oper.wp
      rw [g1]
      exact hK _ _ _ _ _ X' h2 g2 h1 g4 (fun hne => absurd rfl hne)
    · rename_i G args he
      obtain ⟨r0, m0, ⟨⟨hcb, hcl⟩, h⟩ | ⟨⟨hcb, hcl⟩, h⟩⟩ := h
      · obtain ⟨vs, g1, g2⟩ := evOp_ok F M he
        unfold Oper.wp
        rw [g2 w (ag_self M), hcb]
        refine (hcl X W0 w vs M g1).mono ?_
        rintro _ w' ⟨v, X', rfl, k1, k2, k3, k4⟩
        obtain ⟨fr', h1, h2⟩ := putW_ok (F.mono k1) h k2
        exact hK _ _ _ _ _ X' h2 k1 h1 k3 (fun _ => k4)
      · obtain ⟨vs, g1, g2⟩ := evOp_ok F M he
        unfold Oper.wp
        rw [g2 w (ag_self M), hcb]
        refine (hcl X W0 w vs M g1).mono ?_
        rintro _ w' ⟨v, X', rfl, k1, k2, k3⟩
        obtain ⟨fr', h1, h2⟩ := putW_ok (F.mono k1) h k2
        exact hK _ _ _ _ _ X' h2 k1 h1 k3 (fun hne => absurd rfl hne)
theorem seqW_wp {nt : Nat} {ops : Array Oper} {Q : Exit → Act → World → Prop} {R : Fr → Mm → Prop} : ∀ (l : List Oper) (k : Nat) {X : Mem} {w : World} {m : Mm} {fr : Fr} {a : Act}, (∀ j, l[j]? = ops[k + j]?) → FR X nt fr a → MR X W0 m w →
    SeqW P nt ops l fr m R → (∀ fr' m' a' w' X', R fr' m' → X.Le W0.heap.size X' → FR X' nt fr' a' → MR X' W0 m' w' → Q .normal a' w') → wpOps P ops Q (List.range' k l.length) a w
  | [], k, X, w, m, fr, a, _, F, M, h, hQ => hQ _ _ _ _ X h (Mem.Le.refl _ _) F M
  | o :: r, k, X, w, m, fr, a, hl, F, M, h, hQ => by
    rw [List.length_cons, List.range'_succ, wpOps_cons]
    refine stepW_wp (by simpa using (hl 0).symm) F M h fun kd fr' m' a' w' X' k1 k2 k3 k4 _ => ?_
    exact seqW_wp r (k + 1) (fun j => by have := hl (j + 1); simpa [Nat.add_assoc, Nat.add_comm 1 j] using this) k3 k4 k1 fun fr2 m2 a2 w2 X2 l0 l1 l2 l3 => hQ fr2 m2 a2 w2 X2 l0 (k2.trans l1) l2 l3
theorem seqW_region {nt id : Nat} {l : List Oper} {Q : Exit → Act → World → Prop} {R : Fr → Mm → Prop} {fr : Fr} {a : Act} (F : FR X nt fr a) (M : MR X W0 m w) (h : SeqW P nt l.toArray l fr m R)
    (hQ : ∀ fr' m' a' w' X', R fr' m' → X.Le W0.heap.size X' → FR X' nt fr' a' → MR X' W0 m' w' → Q .normal a' w') : (Code.region id l.toArray false).wp P Q a w := by
  refine wp_region ?_
  have := seqW_wp (ops := l.toArray) l 0 (by simp) F M h hQ
  rw [List.range_eq_range']
  simpa using this
theorem ordW_wp {md : Region.Mode} {nt fin : Nat} {ops : Array Oper} {loud : List Nat} {Q : Exit → Act → World → Prop} {R : Fr → Mm → Prop} (hfin : finB md ops fin = true) (hsel : Region.noSelect ops = true) (hfl : loud.contains fin = true ∨ ops.size ≤ fin) :
    ∀ (l : List Nat) {listed : Array Bool} {X : Mem} {w : World} {m : Mm} {fr : Fr} {a : Act}, Closed md ops listed → ordFrom md ops loud l listed = true → FR X nt fr a → MR X W0 m w →
      OrdW P nt ops loud fin l fr m R → (∀ fr' m' a' w' X', R fr' m' → X.Le W0.heap.size X' → FR X' nt fr' a' → MR X' W0 m' w' → Q .normal a' w') → wpAnyF P md ops (NoP Q) (Ag X w) fin l.length listed a w
  | [], listed, X, w, m, fr, a, hcl, hB, F, M, h, hQ => ⟨by simpa [ordFrom] using hB, hQ _ _ _ _ X h (Mem.Le.refl _ _) F M⟩
  | i :: r, listed, X, w, m, fr, a, hcl, hB, F, M, h, hQ => by
    unfold OrdW at h
    split at h
    · exact h.elim
    · rename_i o ho
      simp only [ordFrom, Bool.and_eq_true] at hB
      obtain ⟨hk1, hB'⟩ := hB
      by_cases hl : loud.contains i = true
      · rw [if_pos hl] at hk1
        have hready : Region.ready md ops listed = [i] := by simpa using hk1
        refine ⟨fun h => (by rw [hready] at h; cases h), fun j hj => ?_⟩
        rw [hready] at hj
        obtain rfl := List.mem_singleton.1 hj
        refine stepW_wp ho F M h fun kd fr' m' a' w' X' ⟨hkd, k0⟩ k1 k2 k3 k4 => ?_
        unfold okKind at hkd
        rw [if_pos hl] at hkd
        have hnext := ordW_wp hfin hsel hfl r (hcl.set (k := j) (by rw [hready]; simp)) hB' k2 k3 k0 fun fr2 m2 a2 w2 X2 l0 l1 l2 l3 => hQ fr2 m2 a2 w2 X2 l0 (k1.trans l1) l2 l3
        by_cases hst : isStore kd = true
        · rw [hst] at hkd
          simp only [Bool.not_true, Bool.false_or, Bool.and_eq_true] at hkd
          have e1 := Nat.eq_of_beq_eq_true hkd.1
          have e2 : r = [] := by simpa using hkd.2
          subst e2
          exact ⟨fun hne => absurd e1 hne, hnext⟩
        · have hne : kd ≠ .store := fun e => hst (by rw [e]; rfl)
          have keeps := k4 hne
          refine ⟨fun _ => ⟨fun b o x hx => k3.cell b o x (k1.cell b o x hx), keeps⟩, ?_⟩
          exact wpAnyF_S (fun w2 A => ⟨fun b o x hx => A.cell b o x (k1.cell b o x hx), fun q β hq => (A.loc q β (k1.loc q β hq)).trans (keeps q β hq)⟩) _ _ _ _ hnext
      · rw [if_neg hl] at hk1
        simp only [Bool.and_eq_true] at hk1
        have hif : i ≠ fin := fun e => by
          rcases hfl with hfl | hfl
          · rw [e] at hl; exact hl hfl
          · have := (Array.getElem?_eq_some_iff.1 ho).1; omega
        have hn : ∀ c x, okKind loud fin i r.isEmpty c = true ∧ x → c = .calm := fun c x hx => by
          have h1 := hx.1
          unfold okKind at h1
          rw [if_neg hl] at h1
          cases c <;> first | rfl | cases h1
        have key : ∃ V X' fr' m', YieldsIf P ops (Ag X w) o V a ∧ X.Le W0.heap.size X' ∧ FR X' nt fr' (a.put o.dst V) ∧ MR X' W0 m' w ∧ OrdW P nt ops loud fin r fr' m' R := by
          unfold StepW OpW at h
          split at h
          · exact h.elim
          · rename_i hw
            obtain ⟨fr', h1, h2⟩ := putW_ok F h rep_undef
            exact ⟨undef, X, fr', m, Or.inr ⟨aWanted_ok F hw, rfl⟩, Mem.Le.refl _ _, h1, M, h2.2⟩
          · rename_i hw
            unfold EvW at h
            split at h
            · exact h.elim
            · rename_i c he
              obtain ⟨V, g1, g2⟩ := evOp_ok F M he
              obtain ⟨fr', h1, h2⟩ := putW_ok F h g1
              exact ⟨V, X, fr', m, Or.inl ⟨aWanted_ok F hw, g2⟩, Mem.Le.refl _ _, h1, M, h2.2⟩
            · rename_i c m1 he
              obtain ⟨X', V, g1, g2, g3, g4⟩ := evOp_ok F M he
              obtain ⟨fr', h1, h2⟩ := putW_ok (F.mono g1) h g3
              exact ⟨V, X', fr', m1, Or.inl ⟨aWanted_ok F hw, fun w' A => (g4 w' A).2⟩, g1, h1, g2, h2.2⟩
            · unfold PutW at h
              split at h <;> (have := hn _ _ (by first | exact h | exact h.2); cases this)
            · unfold PutW at h
              split at h <;> (have := hn _ _ (by first | exact h | exact h.2); cases this)
            · unfold PutW at h
              split at h <;> (have := hn _ _ (by first | exact h | exact h.2); cases this)
            · obtain ⟨_, _, ⟨_, h⟩ | ⟨_, h⟩⟩ := h
              all_goals
                unfold PutW at h
                split at h <;> (have := hn _ _ (by first | exact h | exact h.2); cases this)
        obtain ⟨V, X', fr', m', g1, g2, g3, g4, g5⟩ := key
        have hnext := ordW_wp hfin hsel hfl r (hcl.set (by simpa using hk1.1)) hB' g3 g4 g5 fun fr2 m2 a2 w2 X2 l0 l1 l2 l3 => hQ fr2 m2 a2 w2 X2 l0 (g2.trans l1) l2 l3
        refine wpAnyF_first hfin ho (Region.noSelect_spec hsel) hif (fun _ _ _ h => h.elim) r.length listed a w hcl (Region.free_spec ho hk1.2) (by simpa using hk1.1) g1 (ag_self M) ?_
        exact wpAnyF_S (fun w2 A => ⟨fun b o x hx => A.cell b o x (g2.cell b o x hx), fun q β hq => A.loc q β (g2.loc q β hq)⟩) _ _ _ _ hnext
theorem ordW_region (hm : P.follows .mixedOrders = true) {nt fin id : Nat} {l : List Oper} {loud ord : List Nat} {Q : Exit → Act → World → Prop} {R : Fr → Mm → Prop} {fr : Fr} {a : Act} (hB : ordB l fin loud ord = true)
    (F : FR X nt fr a) (M : MR X W0 m w) (h : OrdW P nt l.toArray loud fin ord fr m R) (hQ : ∀ fr' m' a' w' X', R fr' m' → X.Le W0.heap.size X' → FR X' nt fr' a' → MR X' W0 m' w' → Q .normal a' w') : (Code.region id l.toArray true).wp P Q a w := by
  unfold ordB at hB
  simp only [Bool.and_eq_true, Bool.or_eq_true, beq_iff_eq, decide_eq_true_eq] at hB
  obtain ⟨hsel, hlen, hfl, hfin, hB⟩ := hB
  refine wp_mono (wp_region_any (Q := NoP Q) hm (wpAny_of_F (S := Ag X w.drew) (fin := fin) _ _ _ _ ?_)) NoP.le
  have := ordW_wp (md := .any) hfin hsel (by simpa using hfl) ord (listed := Array.replicate l.length false) (fun j o _ hj => by rw [Array.getD_eq_getD_getElem?, Array.getElem?_replicate] at hj; split at hj <;> cases hj) hB F M.drew h hQ
  rw [hlen] at this
  simpa using this
end Go.Vs.Ab
