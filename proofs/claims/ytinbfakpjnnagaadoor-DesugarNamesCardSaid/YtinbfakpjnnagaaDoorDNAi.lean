/-
  Code and functions on abstract values and memory. No program in sight.
-/
import Derived.Test.YtinbfakpjnnagaaDoorDNAh
import Derived.Scope
import Derived.LoopN
namespace Go.Vs.Ab
open Go.RowKit
variable {P : Program} {X : Mem} {W0 w w' : World} {m : Mm}
inductive Ex where
  | nrm
  | exit (id : Nat)
  | ret
def Ex.out : Ex → Exit
  | .nrm => .normal
  | .exit i => .exit i
  | .ret => .ret
abbrev Hint := Nat → Option (Nat × List Nat × List Nat)
def evRegion (P : Program) (cal calK : Cal) (H : Hint) (nt id : Nat) (ops : Array Oper) (draw : Bool) (fr : Fr) (m : Mm) : Option (Fr × Mm) :=
  match draw with
  | false => evSeq P cal nt ops (List.range ops.size) fr m
  | true => match H id with
    | some (fin, loud, ord) => if ordB ops.toList fin loud ord then evOrd P calK nt ops loud fin ord fr m else none
    | none => none
theorem evRegion_wp {cal calK : Cal} (hc : CalOk P false cal) (hk : CalOk P true calK) (hm : P.follows .mixedOrders = true) {H : Hint} {nt id : Nat} {ops : Array Oper} {draw : Bool} {Q : Exit → Act → World → Prop} {fr fr' : Fr} {m' : Mm} {a : Act}
    (F : FR X nt fr a) (M : MR X W0 m w) (h : evRegion P cal calK H nt id ops draw fr m = some (fr', m')) (hQ : ∀ a' w' X', X.Le W0.heap.size X' → FR X' nt fr' a' → MR X' W0 m' w' → Q .normal a' w') : (Code.region id ops draw).wp P Q a w := by
  unfold evRegion at h
  split at h
  · exact region_seq_wp hc F M h hQ
  · split at h
    · split at h
      · rename_i hB
        exact region_draw_wp hk hm hB F M h hQ
      · cases h
    · cases h
def evCode (P : Program) (cal calK : Cal) (H : Hint) (nt : Nat) : Nat → Code → Fr → Mm → Option (Ex × Fr × Mm)
  | 0, _, _, _ => none
  | n + 1, c, fr, m => match c with
    | .skip => some (.nrm, fr, m)
    | .label _ => some (.nrm, fr, m)
    | .region id ops draw => match evRegion P cal calK H nt id ops draw fr m with
      | some (fr', m') => some (.nrm, fr', m')
      | none => none
    | .seq a b => match evCode P cal calK H nt n a fr m with
      | some (.nrm, fr', m') => evCode P cal calK H nt n b fr' m'
      | r => r
    | .cond c a b => match opd fr c with
      | some (.c (.v (.bool t))) => match t with
        | true => evCode P cal calK H nt n a fr m
        | false => evCode P cal calK H nt n b fr m
      | _ => none
    | .block id c => match evCode P cal calK H nt n c fr m with
      | some (.exit j, fr', m') => if Nat.beq j id then some (.nrm, fr', m') else some (.exit j, fr', m')
      | r => r
    | .loop c => match evCode P cal calK H nt n c fr m with
      | some (.nrm, fr', m') => evCode P cal calK H nt n (.loop c) fr' m'
      | r => r
    | .exit id => some (.exit id, fr, m)
    | .scope c => evCode P cal calK H nt n c fr m
    | .ret => some (.ret, fr, m)
    | _ => none
theorem evCode_wp {cal calK : Cal} (hc : CalOk P false cal) (hk : CalOk P true calK) (hm : P.follows .mixedOrders = true) {H : Hint} {nt : Nat} : ∀ (n : Nat) (c : Code) {X : Mem} {w : World} {m m' : Mm} {fr fr' : Fr} {a : Act} {e : Ex} {Q : Exit → Act → World → Prop},
    FR X nt fr a → MR X W0 m w → evCode P cal calK H nt n c fr m = some (e, fr', m') → (∀ a' w' X', X.Le W0.heap.size X' → FR X' nt fr' a' → MR X' W0 m' w' → Q e.out a' w') →
    c.wp P Q a w ∧ ∀ d, c = .loop d → Code.rounds P d Q n a w
  | 0, c, X, w, m, m', fr, fr', a, e, Q, F, M, h, hQ => by simp [evCode] at h
  | n + 1, c, X, w, m, m', fr, fr', a, e, Q, F, M, h, hQ => by
    have ih := fun c {X w m m' fr fr' a e Q} => @evCode_wp cal calK hc hk hm H nt n c X w m m' fr fr' a e Q
    unfold evCode at h
    cases c <;> simp only at h <;> try (cases h; done)
    case skip =>
      simp only [Option.some.injEq, Prod.mk.injEq] at h
      obtain ⟨rfl, rfl, rfl⟩ := h
      exact ⟨wp_skip (hQ a w X (Mem.Le.refl _ _) F M), fun d hd => by cases hd⟩
    case label l =>
      simp only [Option.some.injEq, Prod.mk.injEq] at h
      obtain ⟨rfl, rfl, rfl⟩ := h
      exact ⟨wp_label (hQ a w X (Mem.Le.refl _ _) F M), fun d hd => by cases hd⟩
    case exit id =>
      simp only [Option.some.injEq, Prod.mk.injEq] at h
      obtain ⟨rfl, rfl, rfl⟩ := h
      exact ⟨wp_exit (hQ a w X (Mem.Le.refl _ _) F M), fun d hd => by cases hd⟩
    case ret =>
      simp only [Option.some.injEq, Prod.mk.injEq] at h
      obtain ⟨rfl, rfl, rfl⟩ := h
      exact ⟨wp_ret (hQ a w X (Mem.Le.refl _ _) F M), fun d hd => by cases hd⟩
    case region id ops draw =>
      split at h
      · rename_i fr1 m1 h1
        simp only [Option.some.injEq, Prod.mk.injEq] at h
        obtain ⟨rfl, rfl, rfl⟩ := h
        exact ⟨evRegion_wp hc hk hm F M h1 hQ, fun d hd => by cases hd⟩
      · cases h
    case seq c1 c2 =>
      refine ⟨wp_seq ?_, fun d hd => by cases hd⟩
      split at h
      · rename_i fr1 m1 h1
        exact (ih c1 F M h1 fun a' w' X' k1 k2 k3 => (ih c2 k2 k3 h fun a2 w2 X2 l1 l2 l3 => hQ a2 w2 X2 (k1.trans l1) l2 l3).1).1
      · rename_i hne
        refine (ih c1 F M h fun a' w' X' k1 k2 k3 => ?_).1
        cases e with
        | nrm => exact absurd h (hne _ _)
        | exit id => exact hQ a' w' X' k1 k2 k3
        | ret => exact hQ a' w' X' k1 k2 k3
    case cond x c1 c2 =>
      refine ⟨?_, fun d hd => by cases hd⟩
      split at h
      · rename_i t ht
        have hx := val_rep rfl (opd_rep F ht)
        cases t with
        | true => exact wp_cond_true hx (ih c1 F M h hQ).1
        | false => exact wp_cond_false hx (ih c2 F M h hQ).1
      · cases h
    case block id c1 =>
      refine ⟨wp_block ?_, fun d hd => by cases hd⟩
      split at h
      · rename_i j fr1 m1 h1
        split at h
        · rename_i hj
          have hj := Nat.eq_of_beq_eq_true hj
          simp only [Option.some.injEq, Prod.mk.injEq] at h
          obtain ⟨rfl, rfl, rfl⟩ := h
          refine (ih c1 F M h1 fun a' w' X' k1 k2 k3 => ?_).1
          show (if j = id then Q .normal a' w' else Q (.exit j) a' w')
          rw [if_pos hj]
          exact hQ a' w' X' k1 k2 k3
        · rename_i hj
          simp only [Option.some.injEq, Prod.mk.injEq] at h
          obtain ⟨rfl, rfl, rfl⟩ := h
          refine (ih c1 F M h1 fun a' w' X' k1 k2 k3 => ?_).1
          show (if j = id then Q .normal a' w' else Q (.exit j) a' w')
          rw [if_neg (fun h => hj (by rw [h]; exact Nat.beq_refl _))]
          exact hQ a' w' X' k1 k2 k3
      · rename_i hne
        refine (ih c1 F M h fun a' w' X' k1 k2 k3 => ?_).1
        cases e with
        | nrm => exact hQ a' w' X' k1 k2 k3
        | exit j => exact absurd h (hne _ _ _)
        | ret => exact hQ a' w' X' k1 k2 k3
    case loop c1 =>
      have hr : Code.rounds P c1 Q (n + 1) a w := by
        rw [rounds_succ]
        split at h
        · rename_i fr1 m1 h1
          exact (ih c1 F M h1 fun a' w' X' k1 k2 k3 => (ih (.loop c1) k2 k3 h fun a2 w2 X2 l1 l2 l3 => hQ a2 w2 X2 (k1.trans l1) l2 l3).2 c1 rfl).1
        · rename_i hne
          refine (ih c1 F M h fun a' w' X' k1 k2 k3 => ?_).1
          cases e with
          | nrm => exact absurd h (hne _ _)
          | exit id => exact hQ a' w' X' k1 k2 k3
          | ret => exact hQ a' w' X' k1 k2 k3
      exact ⟨wp_loop_rounds _ hr, fun d hd => by injection hd with hd; subst hd; exact hr⟩
    case scope c1 =>
      refine ⟨wp_scope_straight ((ih c1 F M h fun a' w' X' k1 k2 k3 => ?_).1), fun d hd => by cases hd⟩
      cases e <;> exact hQ a' w' X' k1 k2 k3
/-! ### functions -/
def initFr : Nat → List AV → Fr
  | _, [] => []
  | i, c :: r => (i, c) :: initFr (i + 1) r
theorem find_init : ∀ (as : List AV) (i t : Nat) (c : AV), find (initFr i as) t = some c → i ≤ t ∧ as[t - i]? = some c
  | [], _, _, _, h => by simp [initFr, find] at h
  | x :: r, i, t, c, h => by
    simp only [initFr, find] at h
    split at h
    · rename_i e
      have e := Nat.eq_of_beq_eq_true e
      subst e
      simpa using h
    · rename_i e
      have hne : i ≠ t := fun h => e (by rw [h]; exact Nat.beq_refl _)
      obtain ⟨h1, h2⟩ := find_init r (i + 1) t c h
      refine ⟨by omega, ?_⟩
      rw [show t - i = (t - (i + 1)) + 1 by omega]
      simpa using h2
def resOne (P : Program) (fr : Fr) (m : Mm) : ResultVar → Option AV
  | .tmp t => find fr t
  | .cell a t => match find fr a with
    | some p => aLoad P m t p
    | none => none
def resAll (P : Program) (fr : Fr) (m : Mm) : List ResultVar → Option (List AV)
  | [] => some []
  | x :: r => match resOne P fr m x, resAll P fr m r with
    | some c, some cs => some (c :: cs)
    | _, _ => none
def resV : List AV → AV
  | [c] => c
  | cs => .tup cs
theorem asAddr_rep {p : AV} {q : Value} {t : TypeId} {c : AV} (h : aLoad P m t p = some c) (hp : Rep X p q) : ∃ a, q = .pointer (some a) := by
  unfold aLoad at h
  split at h
  · split at h
    · cases hp; exact ⟨_, rfl⟩
    · cases hp; exact ⟨_, rfl⟩
    · cases h
  · cases h
def resM (tmps : Array Value) : ResultVar → Sem Value
  | .tmp t => pure (tmps.getD t undef)
  | .cell a t => do loadVar t (← asAddr (tmps.getD a undef))
theorem resOne_ok {nt : Nat} {fr : Fr} {a : Act} (F : FR X nt fr a) (M : MR X W0 m w) {x : ResultVar} {c : AV} (h : resOne P fr m x = some c) : ∃ V, Rep X c V ∧ (resM a.tmps x).run P w = .ok V w := by
  cases x with
  | tmp t =>
    obtain ⟨x, h1, h2⟩ := F.slot t c h
    exact ⟨x, h2, by simp [resM, Array.getD_eq_getD_getElem?, h1]⟩
  | cell b t =>
    simp only [resOne] at h
    split at h
    · rename_i p hp
      obtain ⟨x, h1, h2⟩ := F.slot b p hp
      obtain ⟨ad, rfl⟩ := asAddr_rep h h2
      obtain ⟨V, g1, g2⟩ := aLoad_ok M h h2
      refine ⟨V, g1, ?_⟩
      have := g2 w (ag_self M)
      simpa [resM, Array.getD_eq_getD_getElem?, h1, asAddr, Instr.loadAt, Instr.sureAddr] using this
    · cases h
theorem resAll_ok {nt : Nat} {fr : Fr} {a : Act} (F : FR X nt fr a) (M : MR X W0 m w) : ∀ {xs : List ResultVar} {cs : List AV}, resAll P fr m xs = some cs → ∃ vs, Reps X cs vs ∧ (xs.mapM (resM a.tmps)).run P w = .ok vs w
  | [], cs, h => by
    simp [resAll] at h
    subst h
    exact ⟨[], ⟨rfl, fun i c x h => by cases h⟩, by simp⟩
  | x :: r, cs, h => by
    unfold resAll at h
    split at h
    · rename_i c ds h1 h2
      injection h with h
      subst h
      obtain ⟨V, g1, g2⟩ := resOne_ok F M h1
      obtain ⟨vs, g3, g4⟩ := resAll_ok F M h2
      refine ⟨V :: vs, ⟨by simp [g3.1], fun i e y h3 h4 => ?_⟩, ?_⟩
      · cases i with
        | zero => simp at h3 h4; subst h3 h4; exact g1
        | succ i => exact g3.2 i e y (by simpa using h3) (by simpa using h4)
      · rw [List.mapM_cons]
        simp only [Sem.run_bind, g2, Result.andThen_ok, g4, Sem.run_pure]
    · cases h
theorem results_run {fn : Func} {tmps : Array Value} {vs : List Value} (h : (fn.results.toList.mapM (resM tmps)).run P w = .ok vs w) : (results fn tmps).run P w = .ok (if h : vs.toArray.size = 1 then vs.toArray[0] else .tuple vs.toArray) w := by
  have e : (fn.results.mapM (resM tmps)).run P w = .ok vs.toArray w := by
    rw [Array.mapM_eq_mapM_toList]
    simp only [Sem.run_map, h, Result.andThen]
  have e2 : results fn tmps = (do let vs ← fn.results.mapM (resM tmps); pure (if h : vs.size = 1 then vs[0] else .tuple vs)) := by
    unfold results
    congr
  rw [e2]
  simp only [Sem.run_bind, e, Result.andThen_ok, Sem.run_pure]
theorem resV_ok {cs : List AV} {vs : List Value} (h : Reps X cs vs) : Rep X (resV cs) (if h : vs.toArray.size = 1 then vs.toArray[0] else .tuple vs.toArray) := by
  have hl := h.1
  by_cases h1 : vs.length = 1
  · rw [dif_pos (by simpa using h1)]
    obtain ⟨c, rfl⟩ : ∃ c, cs = [c] := List.length_eq_one_iff.1 (hl.trans h1)
    obtain ⟨v, rfl⟩ : ∃ v, vs = [v] := List.length_eq_one_iff.1 h1
    exact h.2 0 _ _ rfl rfl
  · rw [dif_neg (by simpa using h1)]
    have : resV cs = .tup cs := by
      unfold resV
      split
      · simp at hl; omega
      · rfl
    rw [this]
    exact .tup h.1 h.2
def callableB (fn : Func) : Bool := !(fn.name == "runtime.NumGoroutine") && fn.body.isSome
theorem callable_of {F : FuncId} {fn : Func} (h : P.funcs[F]? = some fn) (hb : callableB fn = true) : Callable P F := by
  intro vs w
  simp only [callableB, Bool.and_eq_true, Bool.not_eq_true', beq_eq_false_iff_ne, ne_eq] at hb
  obtain ⟨h1, h2⟩ := hb
  cases hbd : fn.body with
  | none => rw [hbd] at h2; cases h2
  | some c => simp [callFunc, h, h1, hbd]
def evBody (P : Program) (cal calK : Cal) (H : Hint) (n : Nat) (fn : Func) (args : List AV) (m : Mm) : Option (AV × Mm) :=
  match fn.body with
  | some c => if callableB fn && Nat.ble args.length fn.ntmps then
      match evCode P cal calK H fn.ntmps n c (initFr 0 args) m with
      | some (.nrm, fr, m') => (resAll P fr m' fn.results.toList).map fun cs => (resV cs, m')
      | some (.ret, fr, m') => (resAll P fr m' fn.results.toList).map fun cs => (resV cs, m')
      | _ => none
    else none
  | none => none
theorem FR.init {nt : Nat} {args : List AV} {vs : Array Value} (h : Reps X args vs.toList) (hle : args.length ≤ nt) : FR X nt (initFr 0 args) { tmps := vs ++ Array.replicate (nt - vs.size) undef, defers := [] } := by
  have hl : vs.size = args.length := by rw [h.1]; simp
  refine ⟨by simp; omega, rfl, fun t c hc => ?_⟩
  obtain ⟨_, h1⟩ := find_init args 0 t c hc
  obtain ⟨x, h2, h3⟩ := h.get h1
  have h2' : vs[t]? = some x := by simpa using h2
  refine ⟨x, ?_, h3⟩
  rw [Array.getElem?_append_left (Array.getElem?_eq_some_iff.1 h2').1]
  exact h2'
theorem evBody_ok {cal calK : Cal} (hc : CalOk P false cal) (hk : CalOk P true calK) (hm : P.follows .mixedOrders = true) {H : Hint} {n : Nat} {F : FuncId} {fn : Func} (hF : P.funcs[F]? = some fn) {args : List AV} {m m' : Mm} {r : AV} (h : evBody P cal calK H n fn args m = some (r, m')) :
    Callable P F ∧ ∀ X W0 w vs, MR X W0 m w → Reps X args vs.toList → Calls P F vs w fun e w' => ∃ v X', e = .returned v ∧ X.Le W0.heap.size X' ∧ Rep X' r v ∧ MR X' W0 m' w' := by
  unfold evBody at h
  split at h
  · rename_i c hb
    split at h
    · rename_i hcb
      simp only [Bool.and_eq_true, Nat.ble_eq] at hcb
      refine ⟨callable_of hF hcb.1, fun X W0 w vs M hargs => ?_⟩
      have fin : ∀ (e : Ex) (fr : Fr) (m1 : Mm), (e = .nrm ∨ e = .ret) → evCode P cal calK H fn.ntmps n c (initFr 0 args) m = some (e, fr, m1) → (resAll P fr m1 fn.results.toList).map (fun cs => (resV cs, m1)) = some (r, m') →
          Calls P F vs w fun e w' => ∃ v X', e = .returned v ∧ X.Le W0.heap.size X' ∧ Rep X' r v ∧ MR X' W0 m' w' := fun e fr m1 he h1 h2 => by
        simp only [Option.map_eq_some_iff, Prod.mk.injEq] at h2
        obtain ⟨cs, h3, rfl, rfl⟩ := h2
        refine calls_of_wp hF hb (evCode_wp hc hk hm n c (FR.init hargs hcb.2) M h1 fun a' w' X' k1 k2 k3 => ?_).1
        obtain ⟨vs', g1, g2⟩ := resAll_ok k2 k3 h3
        have : a'.defers = [] ∧ ∃ v, (results fn a'.tmps).run P w' = .ok v w' ∧ ∃ v2 X'', Ending.returned v = .returned v2 ∧ X.Le W0.heap.size X'' ∧ Rep X'' (resV cs) v2 ∧ MR X'' W0 m1 w' :=
          ⟨k2.defers, _, results_run g2, _, X', rfl, k1, resV_ok g1, k3⟩
        rcases he with rfl | rfl <;> exact this
      split at h
      · rename_i fr m1 h1
        exact fin .nrm fr m1 (Or.inl rfl) h1 h
      · rename_i fr m1 h1
        exact fin .ret fr m1 (Or.inr rfl) h1 h
      · cases h
    · cases h
  · cases h
end Go.Vs.Ab
