/-
  Regions that draw their order where stores stand amid the rest: every order, as a tree; what needs no memory is taken first. No program in sight.
-/
import Derived.Test.YtlhlcfijpdknfaaAt
import Derived.Test.YtlhlcfijpdknfaaBf
set_option linter.unusedVariables false
set_option linter.unusedSimpArgs false
namespace Go.Vs.Ab
open Go.RowKit

variable {P : Program} {X : Mem} {W0 w w' : World} {m : Mm}

/-- What needs no memory: copies, tests of a pointer that leads somewhere, places of fields, parts of tuples, operations on values that are known whole. -/
def pureA (P : Program) (fr : Fr) (o : Oper) : Option AV :=
  match o.op with
  | .move x => opd fr x
  | .assign x => opd fr x
  | .pick c a b => match opd fr c with
    | some (.c (.v (.bool t))) => match t with
      | true => opd fr a
      | false => opd fr b
    | _ => none
  | .binOp op t x y _ => match opdV fr x, opdV fr y with
    | some a, some b => av1 (pureVal P (do eqGuard op t x y a b; binOp op t a b))
    | _, _ => none
  | .unOp op _ x => match opdV fr x with
    | some a => av1 (pureVal P (Op.unary op a))
    | none => none
  | .extract x i => match opd fr x with
    | some (.tup vs) => vs[i]?
    | _ => none
  | .nilCheck x => match opd fr x with
    | some (.ptr b off) => some (.ptr b off)
    | _ => none
  | .fieldAddr s x f => match opd fr x with
    | some (.ptr b off) => aFieldAddr P s f (.ptr b off)
    | _ => none
  | .indexAddr t x ix => match opd fr x, opd fr ix with
    | some (.lsl b lo n k), some i => aIndexL P t (.lsl b lo n k) i
    | _, _ => none
  | _ => none
theorem aIndexL_ptr {t : TypeId} {b lo n k : Nat} {i c : AV} (h : aIndexL P t (.lsl b lo n k) i = some c) : ∃ off kk ii, c = .ptr b off ∧ i = .c (.v (.int kk ii)) := by
  unfold aIndexL at h
  split at h
  · rename_i e b' lo' n' k' i' ht hl hi
    injection hl with hl
    injection hl with hl _
    subst hl
    have hint : ∃ kk ii, i = .c (.v (.int kk ii)) := by
      unfold intV at hi
      split at hi
      · exact ⟨_, _, rfl⟩
      · cases hi
    obtain ⟨kk, ii, rfl⟩ := hint
    split at h
    · split at h
      · injection h with h
        exact ⟨_, kk, ii, h.symm, rfl⟩
      · cases h
    · cases h
  · cases h
theorem av1_all {s : Sem Value} {c : AV} (h : av1 (pureVal P s) = some c) : ∃ V, Rep X c V ∧ ∀ w, s.run P w = .ok V w := by
  unfold av1 at h
  cases hp : pureVal P s with
  | none => rw [hp] at h; cases h
  | some v =>
    rw [hp] at h
    exact ⟨v, avOf1_rep h, fun w => pureVal_run hp w⟩
theorem pureA_ok {nt : Nat} {fr : Fr} {a : Act} {o : Oper} {c : AV} (F : FR X nt fr a) (h : pureA P fr o = some c) : ∃ V, Rep X c V ∧ ∀ w, (execOp a.eval o).run P w = .ok (.value V) w := by
  unfold pureA at h
  split at h
  · rename_i x hx
    exact ⟨_, opd_rep F h, fun w => by simp only [execOp, hx, Sem.run_pure]⟩
  · rename_i x hx
    exact ⟨_, opd_rep F h, fun w => by simp only [execOp, hx, Sem.run_pure]⟩
  · rename_i x y z hx
    split at h
    · rename_i t ht
      have hb : a.eval x = .bool t := val_rep rfl (opd_rep F ht)
      cases t with
      | true => exact ⟨_, opd_rep F h, fun w' => by simp [execOp, hx, hb, asBool]⟩
      | false => exact ⟨_, opd_rep F h, fun w' => by simp [execOp, hx, hb, asBool]⟩
    · cases h
  · rename_i op t x y yt hx
    split at h
    · rename_i u v h1 h2
      obtain ⟨V, g1, g2⟩ := av1_all (X := X) h
      refine ⟨V, g1, fun w => ?_⟩
      simp only [execOp, hx]
      rw [opdV_eq F h1, opdV_eq F h2, Sem.run_bind, g2 w]
      rfl
    · cases h
  · rename_i op t x hx
    split at h
    · rename_i u h1
      obtain ⟨V, g1, g2⟩ := av1_all (X := X) h
      refine ⟨V, g1, fun w => ?_⟩
      simp only [execOp, hx]
      rw [opdV_eq F h1, Sem.run_bind, g2 w]
      rfl
    · cases h
  · rename_i x i hx
    split at h
    · rename_i vs hv
      have hr := opd_rep F hv
      generalize hV : a.eval x = V at hr
      cases hr with
      | tup hl hh =>
        rename_i xs
        have hi := (List.getElem?_eq_some_iff.1 h).1
        have hi2 : i < xs.toList.length := by rw [← hl]; exact hi
        have hx2 : xs.toList[i]? = some xs.toList[i] := List.getElem?_eq_getElem hi2
        refine ⟨xs.toList[i], hh i c _ h hx2, fun w => ?_⟩
        have hx3 : xs[i]? = some xs.toList[i] := by simp
        simp [execOp, hx, hV, Instr.extract, hx3]
    · cases h
  · rename_i x hx
    split at h
    · rename_i b off hc
      have hr := opd_rep F hc
      injection h with h
      subst h
      generalize hV : a.eval x = V at hr
      refine ⟨V, hr, fun w => ?_⟩
      cases hr with
      | ptr hb => simp only [execOp, hx, hV, Sem.run_pure]
    · cases h
  · rename_i s x f hx
    split at h
    · rename_i b off hc
      have hr := opd_rep F hc
      generalize hV : a.eval x = V at hr
      unfold aFieldAddr at h
      split at h
      · rename_i fs h1
        split at h
        · rename_i fd h2
          split at h
          · rename_i i h3
            have q0 := tsz_spec h3
            clear h3
            obtain ⟨i, h3, rfl⟩ := q0
            split at h
            · cases h
            · rename_i h4
              have h4 : i.size ≠ 0 := by simpa using h4
              simp only [Option.some.injEq] at h
              subst h
              cases hr with
              | ptr hb =>
                refine ⟨_, .ptr hb, fun w => ?_⟩
                have := run_fieldAt h1 h2 h3 h4
                simp only [execOp, hx, hV, Sem.run_bind, this, Result.andThen_ok, Sem.run_pure]
          · cases h
        · cases h
      · cases h
    · cases h
  · rename_i t x ix hx
    split at h
    · rename_i b lo n k i h1 h2
      obtain ⟨off, kk, ii, rfl, rfl⟩ := aIndexL_ptr h
      have r1 := opd_rep F h1
      have r2 := opd_rep F h2
      generalize hV : a.eval x = V at r1
      generalize hI : a.eval ix = I at r2
      obtain rfl : I = .int kk ii := by
        cases r2 with
        | c r => cases r with
          | v r => rfl
      cases r1 with
      | lsl q1 q2 q3 q4 q5 =>
        rename_i β o cap
        refine ⟨_, .ptr q1, fun w => ?_⟩
        obtain ⟨V', g1, g2⟩ := aIndexL_ok (X := (⟨fun _ _ => none, X.loc, X.own, X.room⟩ : Mem)) (w := w) h (.lsl q1 q2 q3 q4 q5) (.c (.v rfl))
        cases g1 with
        | ptr hb =>
          have hb : X.loc b = some _ := hb
          rw [q1] at hb
          injection hb with hb
          subst hb
          have := g2 w ⟨fun _ _ _ h => (by cases h), fun _ _ _ => rfl⟩
          simp [execOp, hx, hV, hI, this]
    · cases h
  · cases h
def PureW (P : Program) (nt : Nat) (ops : Array Oper) (fr : Fr) (o : Oper) (K : Fr → Prop) : Prop :=
  match aWanted ops fr o with
  | some false => PutW nt fr o.dst (.tup []) K
  | some true => match pureA P fr o with
    | some c => PutW nt fr o.dst c K
    | none => False
  | none => False
theorem pureW_ok {nt : Nat} {fr : Fr} {a : Act} {ops : Array Oper} {o : Oper} {K : Fr → Prop} (F : FR X nt fr a) (h : PureW P nt ops fr o K) : ∃ V fr', Yields P ops o V a ∧ FR X nt fr' (a.put o.dst V) ∧ K fr' := by
  unfold PureW at h
  split at h
  · rename_i hw
    obtain ⟨fr', h1, h2⟩ := putW_ok F h rep_undef
    exact ⟨undef, fr', Or.inr ⟨aWanted_ok F hw, rfl⟩, h1, h2⟩
  · rename_i hw
    split at h
    · rename_i c hc
      obtain ⟨V, g1, g2⟩ := pureA_ok F hc
      obtain ⟨fr', h1, h2⟩ := putW_ok F h g1
      exact ⟨V, fr', Or.inl ⟨aWanted_ok F hw, g2⟩, h1, h2⟩
    · exact h.elim
  · exact h.elim

def OrdX (P : Program) (nt : Nat) (ops : Array Oper) : OT → Fr → Mm → (Fr → Mm → Prop) → Prop
  | .fin, fr, m, Q => Q fr m
  | .stop, _, _, _ => True
  | .one i t, fr, m, Q => match ops[i]? with
    | none => False
    | some o => PureW P nt ops fr o fun fr' => OrdX P nt ops t fr' m Q
  | .br i t more, fr, m, Q => (match ops[i]? with
    | none => False
    | some o => StepW P nt ops o fr m fun _ fr' m' => OrdX P nt ops t fr' m' Q) ∧ OrdX P nt ops more fr m Q

theorem ordX_wp {md : Region.Mode} {nt : Nat} {ops : Array Oper} {Q : Exit → Act → World → Prop} {R : Fr → Mm → Prop} (hsel : Region.noSelect ops = true) :
    ∀ (t : OT), (∀ {n : Nat} {listed : Array Bool} {X : Mem} {w : World} {m : Mm} {fr : Fr} {a : Act}, chkT md ops t false n listed = true → FR X nt fr a → MR X W0 m w →
      OrdX P nt ops t fr m R → (∀ fr' m' a' w' X', R fr' m' → X.Le W0.heap.size X' → FR X' nt fr' a' → MR X' W0 m' w' → Q .normal a' w') → wpAny P md ops (NoP Q) n listed a w) ∧
    (∀ {n : Nat} {listed : Array Bool} {X : Mem} {w : World} {m : Mm} {fr : Fr} {a : Act}, chkT md ops t true (n + 1) listed = true → FR X nt fr a → MR X W0 m w →
      OrdX P nt ops t fr m R → (∀ fr' m' a' w' X', R fr' m' → X.Le W0.heap.size X' → FR X' nt fr' a' → MR X' W0 m' w' → Q .normal a' w') →
      ∀ j ∈ t.heads, wpOp P ops (NoP Q) j (fun a' w' => wpAny P md ops (NoP Q) n (listed.setIfInBounds j true) a' w') a w)
  | .fin => by
    refine ⟨fun {n listed X w m fr a} hB F M h hQ => ?_, fun hB => by simp [chkT] at hB⟩
    cases n with
    | zero => exact ⟨by simpa [chkT] using hB, hQ _ _ _ _ X h (Mem.Le.refl _ _) F M⟩
    | succ n => simp [chkT] at hB
  | .stop => by
    refine ⟨fun {n listed X w m fr a} hB => ?_, fun _ _ _ _ _ j hj => by cases hj⟩
    cases n <;> simp [chkT] at hB
  | .one i t => by
    refine ⟨fun {n listed X w m fr a} hB F M h hQ => ?_, fun hB => by simp [chkT] at hB⟩
    cases n with
    | zero => simp [chkT] at hB
    | succ n =>
      simp only [chkT, Bool.and_eq_true] at hB
      obtain ⟨⟨hk1, hk2⟩, hB'⟩ := hB
      have hk1 : i ∈ Region.ready md ops listed := by simpa using hk1
      unfold OrdX at h
      split at h
      · exact h.elim
      · rename_i o ho
        obtain ⟨V, fr', g1, g2, g3⟩ := pureW_ok (ops := ops) F h
        have hnext := (ordX_wp hsel t).1 hB' g2 M g3 hQ
        exact wpAny_first ho (Region.noSelect_spec hsel) (fun _ _ _ h => h.elim) n listed a w (Region.free_spec ho hk2) hk1 g1 hnext
  | .br i t more => by
    have chain : ∀ {n : Nat} {listed : Array Bool} {X : Mem} {w : World} {m : Mm} {fr : Fr} {a : Act}, chkT md ops t false n (listed.setIfInBounds i true) = true → chkT md ops more true (n + 1) listed = true → FR X nt fr a → MR X W0 m w →
        OrdX P nt ops (.br i t more) fr m R → (∀ fr' m' a' w' X', R fr' m' → X.Le W0.heap.size X' → FR X' nt fr' a' → MR X' W0 m' w' → Q .normal a' w') →
        ∀ j ∈ (OT.br i t more).heads, wpOp P ops (NoP Q) j (fun a' w' => wpAny P md ops (NoP Q) n (listed.setIfInBounds j true) a' w') a w := fun {n listed X w m fr a} hB1 hB2 F M h hQ j hj => by
      have hj2 : j = i ∨ j ∈ more.heads := by simpa [OT.heads] using hj
      unfold OrdX at h
      rcases hj2 with rfl | hj2
      · have h := h.1
        split at h
        · exact h.elim
        · rename_i o ho
          refine stepW_wp ho F M h fun kd fr' m' a' w' X' k0 k1 k2 k3 k4 => ?_
          exact (ordX_wp hsel t).1 hB1 k2 k3 k0 fun fr2 m2 a2 w2 X2 l0 l1 l2 l3 => hQ fr2 m2 a2 w2 X2 l0 (k1.trans l1) l2 l3
      · exact (ordX_wp hsel more).2 hB2 F M h.2 hQ j hj2
    refine ⟨fun {n listed X w m fr a} hB F M h hQ => ?_, fun {n listed X w m fr a} hB F M h hQ => ?_⟩
    · cases n with
      | zero => simp [chkT] at hB
      | succ n =>
        simp only [chkT, Bool.and_eq_true, beq_iff_eq] at hB
        obtain ⟨hready, hB1, hB2⟩ := hB
        have hh : Region.ready md ops listed = (OT.br i t more).heads := hready
        refine ⟨fun e => (by rw [hready] at e; cases e), fun j hj => ?_⟩
        exact chain hB1 hB2 F M h hQ j (by rw [← hh]; exact hj)
    · simp only [chkT, Bool.and_eq_true] at hB
      exact chain hB.1 hB.2 F M h hQ

/-- Every order leads to the frame frC (at least) and the memory mC. -/
theorem tr_drawX {R : MRel} [hR : RelOk R] {nt : Nat} {fr : Fr} {Q : Ex → Fr → Mm → Prop} (hm : P.follows .mixedOrders = true) {id : Nat} {l : List Oper} (t : OT) (hB : treeB l t = true) (frC : Fr) (mC : Mm)
    (h : OrdX P nt l.toArray t fr m (fun fr' m' => SubF frC fr' ∧ m' = mC)) (hQ : Q .nrm frC mC) : Tr R P nt (.region id l.toArray true) fr m Q := fun X W0 w ac F M => by
  unfold treeB at hB
  simp only [Bool.and_eq_true] at hB
  obtain ⟨hsel, hB⟩ := hB
  refine wp_mono (wp_region_any (Q := NoP fun e a' w' => ∃ ex fr' m' X', e = Ex.out ex ∧ Q ex fr' m' ∧ R W0.heap.size X X' ∧ FR X' nt fr' a' ∧ MR X' W0 m' w') hm ?_) NoP.le
  have := (ordX_wp (P := P) (W0 := W0) (md := .any) (nt := nt) (ops := l.toArray) (Q := fun e a' w' => ∃ ex fr' m' X', e = Ex.out ex ∧ Q ex fr' m' ∧ R W0.heap.size X X' ∧ FR X' nt fr' a' ∧ MR X' W0 m' w') hsel t).1 (n := l.length) (listed := Array.replicate l.length false)
    hB F M.drew h (fun fr' m' a' w' X' k0 k1 k2 k3 => ⟨.nrm, frC, mC, X', rfl, hQ, hR.of k1, k2.weak k0.1.spec, by rw [← k0.2]; exact k3⟩)
  simpa using this
attribute [go_sem] OrdX PureW pureA
end Go.Vs.Ab
