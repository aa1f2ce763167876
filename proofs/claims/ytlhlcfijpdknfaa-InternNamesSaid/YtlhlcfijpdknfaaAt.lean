/-
  Regions that draw their order where more than one loud operation may come next: every order, as a tree. No program in sight.
-/
import Derived.Test.YtlhlcfijpdknfaaAr
set_option linter.unusedVariables false
set_option linter.unusedSimpArgs false
namespace Go.Vs.Ab
open Go.RowKit

variable {P : Program} {X : Mem} {W0 w w' : World} {m : Mm}

/-- one: a calm operation that may be taken first; br: any of a chain of operations comes next (the chain ends in stop). -/
inductive OT where
  | fin
  | stop
  | one (i : Nat) (t : OT)
  | br (i : Nat) (t more : OT)
def OT.heads : OT → List Nat
  | .br i _ more => i :: more.heads
  | _ => []
def chkT (md : Region.Mode) (ops : Array Oper) : OT → Bool → Nat → Array Bool → Bool
  | .fin, false, 0, listed => (Region.ready md ops listed).isEmpty
  | .one i t, false, n + 1, listed => (Region.ready md ops listed).contains i && Region.free md ops listed i && chkT md ops t false n (listed.setIfInBounds i true)
  | .br i t more, false, n + 1, listed => (Region.ready md ops listed == i :: more.heads) && (chkT md ops t false n (listed.setIfInBounds i true) && chkT md ops more true (n + 1) listed)
  | .br i t more, true, n + 1, listed => chkT md ops t false n (listed.setIfInBounds i true) && chkT md ops more true (n + 1) listed
  | .stop, true, _, _ => true
  | _, _, _, _ => false
def OrdT (P : Program) (nt : Nat) (ops : Array Oper) : OT → Fr → Mm → (Fr → Mm → Prop) → Prop
  | .fin, fr, m, Q => Q fr m
  | .stop, _, _, _ => True
  | .one i t, fr, m, Q => match ops[i]? with
    | none => False
    | some o => StepW P nt ops o fr m fun kd fr' m' => isCalm kd = true ∧ OrdT P nt ops t fr' m' Q
  | .br i t more, fr, m, Q => (match ops[i]? with
    | none => False
    | some o => StepW P nt ops o fr m fun kd fr' m' => isStore kd = false ∧ OrdT P nt ops t fr' m' Q) ∧ OrdT P nt ops more fr m Q
def treeB (l : List Oper) (t : OT) : Bool := Region.noSelect l.toArray && chkT .any l.toArray t false l.length (Array.replicate l.length false)

theorem isCalm_eq {kd : Kind} (h : isCalm kd = true) : kd = .calm := by cases kd <;> first | rfl | cases h
theorem ordT_wp {md : Region.Mode} {nt : Nat} {ops : Array Oper} {Q : Exit → Act → World → Prop} {R : Fr → Mm → Prop} (hsel : Region.noSelect ops = true) :
    ∀ (t : OT), (∀ {n : Nat} {listed : Array Bool} {X : Mem} {w : World} {m : Mm} {fr : Fr} {a : Act}, Closed md ops listed → chkT md ops t false n listed = true → FR X nt fr a → MR X W0 m w →
      OrdT P nt ops t fr m R → (∀ fr' m' a' w' X', R fr' m' → X.Le W0.heap.size X' → FR X' nt fr' a' → MR X' W0 m' w' → Q .normal a' w') → wpAnyF P md ops (NoP Q) (Ag X w) ops.size n listed a w) ∧
    (∀ {n : Nat} {listed : Array Bool} {X : Mem} {w : World} {m : Mm} {fr : Fr} {a : Act}, Closed md ops listed → chkT md ops t true (n + 1) listed = true → (∀ j ∈ t.heads, j ∈ Region.ready md ops listed) → FR X nt fr a → MR X W0 m w →
      OrdT P nt ops t fr m R → (∀ fr' m' a' w' X', R fr' m' → X.Le W0.heap.size X' → FR X' nt fr' a' → MR X' W0 m' w' → Q .normal a' w') →
      ∀ j ∈ t.heads, wpOp P ops (NoP Q) j (fun a' w' => (j ≠ ops.size → Ag X w w') ∧ wpAnyF P md ops (NoP Q) (Ag X w) ops.size n (listed.setIfInBounds j true) a' w') a w)
  | .fin => by
    refine ⟨fun {n listed X w m fr a} hcl hB F M h hQ => ?_, fun _ hB => by simp [chkT] at hB⟩
    cases n with
    | zero => exact ⟨by simpa [chkT] using hB, hQ _ _ _ _ X h (Mem.Le.refl _ _) F M⟩
    | succ n => simp [chkT] at hB
  | .stop => by
    refine ⟨fun {n listed X w m fr a} hcl hB => ?_, fun _ _ _ _ _ _ _ j hj => by cases hj⟩
    cases n <;> simp [chkT] at hB
  | .one i t => by
    refine ⟨fun {n listed X w m fr a} hcl hB F M h hQ => ?_, fun _ hB => by simp [chkT] at hB⟩
    cases n with
    | zero => simp [chkT] at hB
    | succ n =>
      simp only [chkT, Bool.and_eq_true] at hB
      obtain ⟨⟨hk1, hk2⟩, hB'⟩ := hB
      have hk1 : i ∈ Region.ready md ops listed := by simpa using hk1
      unfold OrdT at h
      split at h
      · exact h.elim
      · rename_i o ho
        have hif : i ≠ ops.size := by
          have := (Array.getElem?_eq_some_iff.1 ho).1
          omega
        have hfin : finB md ops ops.size = true := by unfold finB; simp
        have hn : ∀ c x, isCalm c = true ∧ x → c = .calm := fun c x hx => isCalm_eq hx.1
        have key : ∃ V X' fr' m', YieldsIf P ops (Ag X w) o V a ∧ X.Le W0.heap.size X' ∧ FR X' nt fr' (a.put o.dst V) ∧ MR X' W0 m' w ∧ OrdT P nt ops t fr' m' R := by
          unfold StepW OpW at h
          split at h
          · exact h.elim
          · rename_i hw
            obtain ⟨fr', h1, h2⟩ := putW_ok F h rep_undef
            exact ⟨undef, X, fr', m, Or.inr ⟨aWanted_ok F hw, rfl⟩, Mem.Le.refl _ _, h1, M, h2.2⟩
          · rename_i hw
            unfold EvW at h
            split at h
            · exact h.elim
            · rename_i c he
              obtain ⟨V, g1, g2⟩ := evOp_ok F M he
              obtain ⟨fr', h1, h2⟩ := putW_ok F h g1
              exact ⟨V, X, fr', m, Or.inl ⟨aWanted_ok F hw, g2⟩, Mem.Le.refl _ _, h1, M, h2.2⟩
            · rename_i c m1 he
              obtain ⟨X', V, g1, g2, g3, g4⟩ := evOp_ok F M he
              obtain ⟨fr', h1, h2⟩ := putW_ok (F.mono g1) h g3
              exact ⟨V, X', fr', m1, Or.inl ⟨aWanted_ok F hw, fun w' A => (g4 w' A).2⟩, g1, h1, g2, h2.2⟩
            · unfold PutW at h
              split at h <;> (have := hn _ _ (by first | exact h | exact h.2); cases this)
            · unfold PutW at h
              split at h <;> (have := hn _ _ (by first | exact h | exact h.2); cases this)
            · unfold PutW at h
              split at h <;> (have := hn _ _ (by first | exact h | exact h.2); cases this)
            · obtain ⟨_, _, ⟨_, h⟩ | ⟨_, h⟩⟩ := h
              all_goals
                unfold PutW at h
                split at h <;> (have := hn _ _ (by first | exact h | exact h.2); cases this)
        obtain ⟨V, X', fr', m', g1, g2, g3, g4, g5⟩ := key
        have hnext := (ordT_wp hsel t).1 (hcl.set hk1) hB' g3 g4 g5 fun fr2 m2 a2 w2 X2 l0 l1 l2 l3 => hQ fr2 m2 a2 w2 X2 l0 (g2.trans l1) l2 l3
        refine wpAnyF_first hfin ho (Region.noSelect_spec hsel) hif (fun _ _ _ h => h.elim) n listed a w hcl (Region.free_spec ho hk2) hk1 g1 (ag_self M) ?_
        exact wpAnyF_S (fun w2 A => ⟨fun b o x hx => A.cell b o x (g2.cell b o x hx), fun q β hq => A.loc q β (g2.loc q β hq)⟩) _ _ _ _ hnext
  | .br i t more => by
    have chain : ∀ {n : Nat} {listed : Array Bool} {X : Mem} {w : World} {m : Mm} {fr : Fr} {a : Act}, Closed md ops listed → chkT md ops t false n (listed.setIfInBounds i true) = true → chkT md ops more true (n + 1) listed = true → (∀ j ∈ (OT.br i t more).heads, j ∈ Region.ready md ops listed) → FR X nt fr a → MR X W0 m w →
        OrdT P nt ops (.br i t more) fr m R → (∀ fr' m' a' w' X', R fr' m' → X.Le W0.heap.size X' → FR X' nt fr' a' → MR X' W0 m' w' → Q .normal a' w') →
        ∀ j ∈ (OT.br i t more).heads, wpOp P ops (NoP Q) j (fun a' w' => (j ≠ ops.size → Ag X w w') ∧ wpAnyF P md ops (NoP Q) (Ag X w) ops.size n (listed.setIfInBounds j true) a' w') a w := fun {n listed X w m fr a} hcl hB1 hB2 hr F M h hQ j hj => by
      have hj2 : j = i ∨ j ∈ more.heads := by simpa [OT.heads] using hj
      unfold OrdT at h
      rcases hj2 with rfl | hj2
      · have h := h.1
        split at h
        · exact h.elim
        · rename_i o ho
          refine stepW_wp ho F M h fun kd fr' m' a' w' X' ⟨hkd, k0⟩ k1 k2 k3 k4 => ?_
          have hnext := (ordT_wp hsel t).1 (hcl.set (hr j hj)) hB1 k2 k3 k0 fun fr2 m2 a2 w2 X2 l0 l1 l2 l3 => hQ fr2 m2 a2 w2 X2 l0 (k1.trans l1) l2 l3
          have hne : kd ≠ .store := fun e => by rw [e] at hkd; cases hkd
          have keeps := k4 hne
          refine ⟨fun _ => ⟨fun b o x hx => k3.cell b o x (k1.cell b o x hx), keeps⟩, ?_⟩
          exact wpAnyF_S (fun w2 A => ⟨fun b o x hx => A.cell b o x (k1.cell b o x hx), fun q β hq => (A.loc q β (k1.loc q β hq)).trans (keeps q β hq)⟩) _ _ _ _ hnext
      · exact (ordT_wp hsel more).2 hcl hB2 (fun q hq => hr q (by simp [OT.heads, hq])) F M h.2 hQ j hj2
    refine ⟨fun {n listed X w m fr a} hcl hB F M h hQ => ?_, fun {n listed X w m fr a} hcl hB hr F M h hQ => ?_⟩
    · cases n with
      | zero => simp [chkT] at hB
      | succ n =>
        simp only [chkT, Bool.and_eq_true, beq_iff_eq] at hB
        obtain ⟨hready, hB1, hB2⟩ := hB
        have hh : Region.ready md ops listed = (OT.br i t more).heads := hready
        refine ⟨fun e => (by rw [hready] at e; cases e), fun j hj => ?_⟩
        exact chain hcl hB1 hB2 (fun q hq => by rw [hh]; exact hq) F M h hQ j (by rw [← hh]; exact hj)
    · simp only [chkT, Bool.and_eq_true] at hB
      exact chain hcl hB.1 hB.2 hr F M h hQ

theorem tr_drawT {R : MRel} [hR : RelOk R] {nt : Nat} {fr : Fr} {Q : Ex → Fr → Mm → Prop} (hm : P.follows .mixedOrders = true) {id : Nat} {l : List Oper} (t : OT) (hB : treeB l t = true) (h : OrdT P nt l.toArray t fr m (Q .nrm)) : Tr R P nt (.region id l.toArray true) fr m Q := fun X W0 w ac F M => by
  unfold treeB at hB
  simp only [Bool.and_eq_true] at hB
  obtain ⟨hsel, hB⟩ := hB
  refine wp_mono (wp_region_any (Q := NoP fun e a' w' => ∃ ex fr' m' X', e = Ex.out ex ∧ Q ex fr' m' ∧ R W0.heap.size X X' ∧ FR X' nt fr' a' ∧ MR X' W0 m' w') hm (wpAny_of_F (S := Ag X w.drew) (fin := l.toArray.size) _ _ _ _ ?_)) NoP.le
  have := (ordT_wp (P := P) (W0 := W0) (md := .any) (nt := nt) (ops := l.toArray) (Q := fun e a' w' => ∃ ex fr' m' X', e = Ex.out ex ∧ Q ex fr' m' ∧ R W0.heap.size X X' ∧ FR X' nt fr' a' ∧ MR X' W0 m' w') (R := Q .nrm) hsel t).1 (n := l.length) (listed := Array.replicate l.length false)
    (fun j o _ hj => by rw [Array.getD_eq_getD_getElem?, Array.getElem?_replicate] at hj; split at hj <;> cases hj) hB F M.drew h (fun fr' m' a' w' X' k0 k1 k2 k3 => ⟨.nrm, fr', m', X', rfl, k0, hR.of k1, k2, k3⟩)
  simpa using this
end Go.Vs.Ab
