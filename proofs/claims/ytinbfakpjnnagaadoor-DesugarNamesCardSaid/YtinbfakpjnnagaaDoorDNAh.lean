/-
  Regions on abstract values and memory. No program in sight.
-/
import Derived.Test.YtinbfakpjnnagaaDoorDNAg
namespace Go.Vs.Ab
open Go.RowKit
variable {P : Program} {X : Mem} {W0 w w' : World} {m : Mm}
abbrev Fr := List (Nat × AV)
abbrev Cal := FuncId → List AV → Mm → Option (AV × Mm)
def ins : Fr → Nat → AV → Fr
  | [], d, c => [(d, c)]
  | (s, e) :: r, d, c => if Nat.beq s d then (d, c) :: r else (s, e) :: ins r d c
theorem find_ins (d : Nat) (c : AV) (t : Nat) : ∀ fr : Fr, find (ins fr d c) t = if d = t then some c else find fr t
  | [] => by
    simp only [ins, find]
    by_cases h : d = t
    · rw [if_pos h, if_pos (by rw [h]; exact Nat.beq_refl t)]
    · rw [if_neg h, if_neg (fun e => h (Nat.eq_of_beq_eq_true e))]
  | (s, e) :: r => by
    unfold ins
    by_cases h : Nat.beq s d = true
    · rw [if_pos h]
      have := Nat.eq_of_beq_eq_true h
      subst this
      simp only [find]
      by_cases h2 : s = t
      · rw [if_pos h2, if_pos (by rw [h2]; exact Nat.beq_refl t)]
      · rw [if_neg h2, if_neg (fun e => h2 (Nat.eq_of_beq_eq_true e)), if_neg (fun e => h2 (Nat.eq_of_beq_eq_true e))]
    · rw [if_neg h]
      simp only [find]
      rw [find_ins d c t r]
      by_cases h2 : Nat.beq s t = true
      · rw [if_pos h2, if_pos h2]
        have h3 := Nat.eq_of_beq_eq_true h2
        rw [if_neg]
        intro e
        subst h3
        exact h (by rw [e]; exact Nat.beq_refl _)
      · rw [if_neg h2, if_neg h2]
theorem FR.ins {nt : Nat} {fr : Fr} {a : Act} (h : FR X nt fr a) {d : Nat} {c : AV} {x : Value} (hd : d < nt) (hr : Rep X c x) : FR X nt (ins fr d c) (a.put (some d) x) :=
  (h.put hd hr).weak fun t e he => by
    rw [find_ins] at he
    simp only [find]
    by_cases e1 : d = t
    · rw [if_pos e1] at he
      rw [if_pos (by rw [e1]; exact Nat.beq_refl t)]
      exact he
    · rw [if_neg e1] at he
      rw [if_neg (fun e => e1 (Nat.eq_of_beq_eq_true e))]
      exact he
def putA (nt : Nat) (fr : Fr) (dst : Option Tmp) (c : AV) : Option Fr :=
  match dst with
  | none => some fr
  | some d => if Nat.blt d nt then some (ins fr d c) else none
theorem putA_ok {nt : Nat} {fr fr' : Fr} {a : Act} (F : FR X nt fr a) {dst : Option Tmp} {c : AV} {x : Value} (h : putA nt fr dst c = some fr') (hr : Rep X c x) : FR X nt fr' (a.put dst x) := by
  unfold putA at h
  split at h
  · injection h with h
    subst h
    exact F
  · split at h
    · rename_i d hd
      injection h with h
      subst h
      exact F.ins (by simpa using hd) hr
    · cases h
theorem rep_undef : Rep X (.tup []) undef := .tup rfl (fun i c x h => by cases h)
def aWanted (ops : Array Oper) (fr : Fr) (o : Oper) : Option Bool :=
  match o.guard with
  | none => some true
  | some (j, b) => match (ops[j]?).bind (·.dst) with
    | none => some false
    | some d => match find fr d with
      | some (.c (.v (.bool t))) => some (t == b)
      | some (.tup _) => some false
      | _ => none
theorem aWanted_ok {nt : Nat} {fr : Fr} {a : Act} (F : FR X nt fr a) {ops : Array Oper} {o : Oper} {b : Bool} (h : aWanted ops fr o = some b) : Region.wanted o (yielded ops a.tmps) = b := by
  unfold aWanted at h
  unfold Region.wanted
  split at h
  · rename_i hg
    injection h with h
    subst h
    simp [hg]
  · rename_i j c hg
    simp only [hg]
    unfold yielded
    split at h
    · rename_i hd
      injection h with h
      subst h
      simp [hd]
    · rename_i d hd
      split at h
      · rename_i t ht
        injection h with h
        subst h
        obtain ⟨x, h1, h2⟩ := F.slot d _ ht
        have := val_rep rfl h2
        subst this
        rw [hd, Option.bind_some, h1]
        simp
      · rename_i vs ht
        injection h with h
        subst h
        obtain ⟨x, h1, h2⟩ := F.slot d _ ht
        cases h2
        rw [hd, Option.bind_some, h1]
        simp
      · cases h
def Callable (P : Program) (F : FuncId) : Prop := ∀ vs w, (callFunc F vs).run P w = .ok (.enter F vs) w
def CalOk (P : Program) (keep : Bool) (cal : Cal) : Prop := ∀ F args m r m', cal F args m = some (r, m') → Callable P F ∧ ∀ X W0 w vs, MR X W0 m w → Reps X args vs.toList →
  Calls P F vs w fun e w' => ∃ v X', e = .returned v ∧ X.Le W0.heap.size X' ∧ Rep X' r v ∧ MR X' W0 m' w' ∧ (keep = true → ∀ i β, X.loc i = some β → w'.heap[β]? = w.heap[β]?)
inductive Kind where
  | calm | loud | store
def evStep (P : Program) (cal : Cal) (nt : Nat) (ops : Array Oper) (i : Nat) (fr : Fr) (m : Mm) : Option (Kind × Fr × Mm) :=
  match ops[i]? with
  | none => none
  | some o => match aWanted ops fr o with
    | none => none
    | some false => (putA nt fr o.dst (.tup [])).map fun fr' => (.calm, fr', m)
    | some true => match evOp P fr m o with
      | none => none
      | some (.calm c) => (putA nt fr o.dst c).map fun fr' => (.calm, fr', m)
      | some (.frz c m') => (putA nt fr o.dst c).map fun fr' => (.calm, fr', m')
      | some (.loud c m') => (putA nt fr o.dst c).map fun fr' => (.loud, fr', m')
      | some (.store m') => (putA nt fr o.dst (.tup [])).map fun fr' => (.store, fr', m')
      | some (.wr c m') => (putA nt fr o.dst c).map fun fr' => (.store, fr', m')
      | some (.call F args) => match cal F args m with
        | some (r, m') => (putA nt fr o.dst r).map fun fr' => (.loud, fr', m')
        | none => none
theorem ag_self (M : MR X W0 m w) : Ag X w w := ⟨M.cell, fun _ _ _ => rfl⟩
theorem step_wp {cal : Cal} {keep : Bool} (hc : CalOk P keep cal) {nt : Nat} {fr fr' : Fr} {m' : Mm} {a : Act} {ops : Array Oper} {i : Nat} {kd : Kind} (F : FR X nt fr a) (M : MR X W0 m w) (h : evStep P cal nt ops i fr m = some (kd, fr', m'))
    {K : Act → World → Prop} {Q : Exit → Act → World → Prop} (hK : ∀ a' w' X', X.Le W0.heap.size X' → FR X' nt fr' a' → MR X' W0 m' w' → (keep = true → kd ≠ .store → ∀ i β, X.loc i = some β → w'.heap[β]? = w.heap[β]?) → K a' w') : wpOp P ops Q i K a w := by
  unfold evStep at h
  unfold wpOp
  split at h
  · cases h
  · rename_i o ho
    simp only [ho]
    split at h
    · cases h
    · rename_i hw
      simp only [Option.map_eq_some_iff, Prod.mk.injEq] at h
      obtain ⟨fr1, h1, rfl, rfl, rfl⟩ := h
      rw [if_neg (by rw [aWanted_ok F hw]; exact Bool.false_ne_true)]
      exact hK _ _ X (Mem.Le.refl _ _) (putA_ok F h1 rep_undef) M (fun _ _ _ _ _ => rfl)
    · rename_i hw
      rw [if_pos (aWanted_ok F hw)]
      refine Or.inl ?_
      split at h
      · cases h
      · rename_i c he
        simp only [Option.map_eq_some_iff, Prod.mk.injEq] at h
        obtain ⟨fr1, h1, rfl, rfl, rfl⟩ := h
        obtain ⟨V, g1, g2⟩ := evOp_ok F M he
        unfold Oper.wp
        rw [g2 w (ag_self M)]
        exact hK _ _ X (Mem.Le.refl _ _) (putA_ok F h1 g1) M (fun _ _ _ _ _ => rfl)
      · rename_i c m1 he
        simp only [Option.map_eq_some_iff, Prod.mk.injEq] at h
        obtain ⟨fr1, h1, rfl, rfl, rfl⟩ := h
        obtain ⟨X', V, g1, g2, g3, g4⟩ := evOp_ok F M he
        unfold Oper.wp
        rw [(g4 w (ag_self M)).2]
        exact hK _ _ X' g1 (putA_ok (F.mono g1) h1 g3) g2 (fun _ _ _ _ _ => rfl)
      · rename_i c m1 he
        simp only [Option.map_eq_some_iff, Prod.mk.injEq] at h
        obtain ⟨fr1, h1, rfl, rfl, rfl⟩ := h
        obtain ⟨V, X', w', g1, g2, g3, g4, g5⟩ := evOp_ok F M he
        unfold Oper.wp
        rw [g1]
        exact hK _ _ X' g2 (putA_ok (F.mono g2) h1 g3) g4 (fun _ _ => g5)
      · rename_i m1 he
        simp only [Option.map_eq_some_iff, Prod.mk.injEq] at h
        obtain ⟨fr1, h1, rfl, rfl, rfl⟩ := h
        obtain ⟨w', g1 | g1, g2⟩ := evOp_ok F M he
        all_goals
          unfold Oper.wp
          rw [g1]
          exact hK _ _ X (Mem.Le.refl _ _) (putA_ok F h1 rep_undef) g2 (fun _ hne => absurd rfl hne)
      · rename_i c m1 he
        simp only [Option.map_eq_some_iff, Prod.mk.injEq] at h
        obtain ⟨fr1, h1, rfl, rfl, rfl⟩ := h
        obtain ⟨V, X', w', g1, g2, g3, g4⟩ := evOp_ok F M he
        unfold Oper.wp
        rw [g1]
        exact hK _ _ X' g2 (putA_ok (F.mono g2) h1 g3) g4 (fun _ hne => absurd rfl hne)
      · rename_i G args he
        split at h
        · rename_i r m1 hcal
          simp only [Option.map_eq_some_iff, Prod.mk.injEq] at h
          obtain ⟨fr1, h1, rfl, rfl, rfl⟩ := h
          obtain ⟨vs, g1, g2⟩ := evOp_ok F M he
          obtain ⟨hcb, hcl⟩ := hc G args m r m1 hcal
          unfold Oper.wp
          rw [g2 w (ag_self M), hcb]
          refine (hcl X W0 w vs M g1).mono ?_
          rintro _ w' ⟨v, X', rfl, k1, k2, k3, k4⟩
          exact hK _ _ X' k1 (putA_ok (F.mono k1) h1 k2) k3 (fun hk _ => k4 hk)
        · cases h
/-! ### a region in the order of the text -/
def evSeq (P : Program) (cal : Cal) (nt : Nat) (ops : Array Oper) : List Nat → Fr → Mm → Option (Fr × Mm)
  | [], fr, m => some (fr, m)
  | i :: r, fr, m => match evStep P cal nt ops i fr m with
    | some (_, fr', m') => evSeq P cal nt ops r fr' m'
    | none => none
theorem seq_wp {cal : Cal} {keep : Bool} (hc : CalOk P keep cal) {nt : Nat} {ops : Array Oper} {Q : Exit → Act → World → Prop} {fr' : Fr} {m' : Mm} : ∀ (l : List Nat) {X : Mem} {w : World} {m : Mm} {fr : Fr} {a : Act}, FR X nt fr a → MR X W0 m w →
    evSeq P cal nt ops l fr m = some (fr', m') → (∀ a' w' X', X.Le W0.heap.size X' → FR X' nt fr' a' → MR X' W0 m' w' → Q .normal a' w') → wpOps P ops Q l a w
  | [], X, w, m, fr, a, F, M, h, hQ => by
    simp only [evSeq, Option.some.injEq, Prod.mk.injEq] at h
    obtain ⟨rfl, rfl⟩ := h
    exact hQ _ _ X (Mem.Le.refl _ _) F M
  | i :: r, X, w, m, fr, a, F, M, h, hQ => by
    unfold evSeq at h
    split at h
    · rename_i kd fr1 m1 h1
      rw [wpOps_cons]
      exact step_wp hc F M h1 fun a' w' X' k1 k2 k3 _ => seq_wp hc r k2 k3 h fun a2 w2 X2 l1 l2 l3 => hQ a2 w2 X2 (k1.trans l1) l2 l3
    · cases h
/-! ### a region that draws its order -/
theorem wpAnyF_S {md : Region.Mode} {ops : Array Oper} {Q : Exit → Act → World → Prop} {S S' : World → Prop} {fin : Nat} (hS : ∀ w, S' w → S w) : ∀ (n : Nat) (listed : Array Bool) (a : Act) (w : World), wpAnyF P md ops Q S' fin n listed a w → wpAnyF P md ops Q S fin n listed a w
  | 0, _, _, _, h => h
  | n + 1, _, _, _, h => ⟨h.1, fun i hi => wpOp_mono (fun a' w' h' => ⟨fun hne => hS _ (h'.1 hne), wpAnyF_S hS n _ a' w' h'.2⟩) (h.2 i hi)⟩
def isCalm : Kind → Bool
  | .calm => true
  | _ => false
def isStore : Kind → Bool
  | .store => true
  | _ => false
def okKind (loud : List Nat) (fin i : Nat) (last : Bool) (kd : Kind) : Bool := if loud.contains i then !isStore kd || (Nat.beq i fin && last) else isCalm kd
def evOrd (P : Program) (cal : Cal) (nt : Nat) (ops : Array Oper) (loud : List Nat) (fin : Nat) : List Nat → Fr → Mm → Option (Fr × Mm)
  | [], fr, m => some (fr, m)
  | i :: r, fr, m => match evStep P cal nt ops i fr m with
    | some (kd, fr', m') => if okKind loud fin i r.isEmpty kd then evOrd P cal nt ops loud fin r fr' m' else none
    | none => none
theorem calm_yields {cal : Cal} {nt : Nat} {fr fr' : Fr} {m' : Mm} {a : Act} {ops : Array Oper} {i : Nat} {o : Oper} (ho : ops[i]? = some o) (F : FR X nt fr a) (M : MR X W0 m w) (h : evStep P cal nt ops i fr m = some (.calm, fr', m')) :
    ∃ V X', YieldsIf P ops (Ag X w) o V a ∧ X.Le W0.heap.size X' ∧ FR X' nt fr' (a.put o.dst V) ∧ MR X' W0 m' w ∧ ∀ w', Ag X w w' → Ag X' w w' := by
  unfold evStep at h
  rw [ho] at h
  simp only at h
  split at h
  · cases h
  · rename_i hw
    simp only [Option.map_eq_some_iff, Prod.mk.injEq] at h
    obtain ⟨fr1, h1, _, rfl, rfl⟩ := h
    exact ⟨undef, X, Or.inr ⟨aWanted_ok F hw, rfl⟩, Mem.Le.refl _ _, putA_ok F h1 rep_undef, M, fun _ A => A⟩
  · rename_i hw
    split at h
    · cases h
    · rename_i c he
      simp only [Option.map_eq_some_iff, Prod.mk.injEq] at h
      obtain ⟨fr1, h1, _, rfl, rfl⟩ := h
      obtain ⟨V, g1, g2⟩ := evOp_ok F M he
      exact ⟨V, X, Or.inl ⟨aWanted_ok F hw, g2⟩, Mem.Le.refl _ _, putA_ok F h1 g1, M, fun _ A => A⟩
    · rename_i c m1 he
      simp only [Option.map_eq_some_iff, Prod.mk.injEq] at h
      obtain ⟨fr1, h1, _, rfl, rfl⟩ := h
      obtain ⟨X', V, g1, g2, g3, g4⟩ := evOp_ok F M he
      exact ⟨V, X', Or.inl ⟨aWanted_ok F hw, fun w' A => (g4 w' A).2⟩, g1, putA_ok (F.mono g1) h1 g3, g2, fun w' A => (g4 w' A).1⟩
    · simp only [Option.map_eq_some_iff, Prod.mk.injEq] at h
      obtain ⟨_, _, h2, _⟩ := h
      cases h2
    · simp only [Option.map_eq_some_iff, Prod.mk.injEq] at h
      obtain ⟨_, _, h2, _⟩ := h
      cases h2
    · simp only [Option.map_eq_some_iff, Prod.mk.injEq] at h
      obtain ⟨_, _, h2, _⟩ := h
      cases h2
    · split at h
      · simp only [Option.map_eq_some_iff, Prod.mk.injEq] at h
        obtain ⟨_, _, h2, _⟩ := h
        cases h2
      · cases h
theorem ord_wp {md : Region.Mode} {cal : Cal} (hc : CalOk P true cal) {nt fin : Nat} {ops : Array Oper} {loud : List Nat} {Q : Exit → Act → World → Prop} {fr' : Fr} {m' : Mm} (hfin : finB md ops fin = true) (hsel : Region.noSelect ops = true) (hfl : loud.contains fin = true ∨ ops.size ≤ fin) :
    ∀ (l : List Nat) {listed : Array Bool} {X : Mem} {w : World} {m : Mm} {fr : Fr} {a : Act}, Closed md ops listed → ordFrom md ops loud l listed = true → FR X nt fr a → MR X W0 m w →
      evOrd P cal nt ops loud fin l fr m = some (fr', m') → (∀ a' w' X', X.Le W0.heap.size X' → FR X' nt fr' a' → MR X' W0 m' w' → Q .normal a' w') → wpAnyF P md ops (NoP Q) (Ag X w) fin l.length listed a w
  | [], listed, X, w, m, fr, a, hcl, hB, F, M, h, hQ => by
    simp only [evOrd, Option.some.injEq, Prod.mk.injEq] at h
    obtain ⟨rfl, rfl⟩ := h
    exact ⟨by simpa [ordFrom] using hB, hQ _ _ X (Mem.Le.refl _ _) F M⟩
  | i :: r, listed, X, w, m, fr, a, hcl, hB, F, M, h, hQ => by
    unfold evOrd at h
    split at h
    · rename_i kd fr1 m1 h1
      split at h
      · rename_i hkd
        unfold okKind at hkd
        simp only [ordFrom, Bool.and_eq_true] at hB
        obtain ⟨hk1, hB'⟩ := hB
        have ho : ∃ o, ops[i]? = some o := by
          unfold evStep at h1
          cases hoi : ops[i]? with
          | none => rw [hoi] at h1; cases h1
          | some o => exact ⟨o, rfl⟩
        obtain ⟨o, ho⟩ := ho
        by_cases hl : loud.contains i = true
        · rw [if_pos hl] at hk1 hkd
          have hready : Region.ready md ops listed = [i] := by simpa using hk1
          refine ⟨fun h => (by rw [hready] at h; cases h), fun j hj => ?_⟩
          rw [hready] at hj
          obtain rfl := List.mem_singleton.1 hj
          refine step_wp hc F M h1 fun a' w' X' k1 k2 k3 k4 => ?_
          have hnext := ord_wp hc hfin hsel hfl r (hcl.set (k := j) (by rw [hready]; simp)) hB' k2 k3 h fun a2 w2 X2 l1 l2 l3 => hQ a2 w2 X2 (k1.trans l1) l2 l3
          by_cases hst : isStore kd = true
          · rw [hst] at hkd
            simp only [Bool.not_true, Bool.false_or, Bool.and_eq_true] at hkd
            have e1 := Nat.eq_of_beq_eq_true hkd.1
            have e2 : r = [] := by simpa using hkd.2
            subst e2
            exact ⟨fun hne => absurd e1 hne, hnext⟩
          · have hne : kd ≠ .store := fun e => hst (by rw [e]; rfl)
            have keeps := k4 rfl hne
            refine ⟨fun _ => ⟨fun b o x hx => k3.cell b o x (k1.cell b o x hx), keeps⟩, ?_⟩
            exact wpAnyF_S (fun w2 A => ⟨fun b o x hx => A.cell b o x (k1.cell b o x hx), fun q β hq => (A.loc q β (k1.loc q β hq)).trans (keeps q β hq)⟩) _ _ _ _ hnext
        · rw [if_neg hl] at hk1 hkd
          simp only [Bool.and_eq_true] at hk1
          have hkc : kd = .calm := by cases kd <;> first | rfl | cases hkd
          subst hkc
          have hif : i ≠ fin := fun e => by
            rcases hfl with hfl | hfl
            · rw [e] at hl; exact hl hfl
            · have := (Array.getElem?_eq_some_iff.1 ho).1; omega
          obtain ⟨V, X', g1, g2, g3, g4, g5⟩ := calm_yields ho F M h1
          have hnext := ord_wp hc hfin hsel hfl r (hcl.set (by simpa using hk1.1)) hB' g3 g4 h fun a2 w2 X2 l1 l2 l3 => hQ a2 w2 X2 (g2.trans l1) l2 l3
          refine wpAnyF_first hfin ho (Region.noSelect_spec hsel) hif (fun _ _ _ h => h.elim) r.length listed a w hcl (Region.free_spec ho hk1.2) (by simpa using hk1.1) g1 (ag_self M) ?_
          exact wpAnyF_S (fun w2 A => ⟨fun b o x hx => A.cell b o x (g2.cell b o x hx), fun q β hq => A.loc q β (g2.loc q β hq)⟩) _ _ _ _ hnext
      · cases h
    · cases h
theorem MR.drew (M : MR X W0 m w) : MR X W0 m w.drew := M.grow (Below.refl _ w).drew
theorem region_draw_wp {cal : Cal} (hc : CalOk P true cal) (hm : P.follows .mixedOrders = true) {nt fin id : Nat} {ops : Array Oper} {loud ord : List Nat} {Q : Exit → Act → World → Prop} {fr fr' : Fr} {m' : Mm} {a : Act} (hB : ordB ops.toList fin loud ord = true)
    (F : FR X nt fr a) (M : MR X W0 m w) (h : evOrd P cal nt ops loud fin ord fr m = some (fr', m')) (hQ : ∀ a' w' X', X.Le W0.heap.size X' → FR X' nt fr' a' → MR X' W0 m' w' → Q .normal a' w') : (Code.region id ops true).wp P Q a w := by
  unfold ordB at hB
  simp only [Bool.and_eq_true, Bool.or_eq_true, beq_iff_eq, decide_eq_true_eq, Array.toArray_toList, Array.length_toList] at hB
  obtain ⟨hsel, hlen, hfl, hfin, hB⟩ := hB
  refine wp_mono (wp_region_any (Q := NoP Q) hm (wpAny_of_F (S := Ag X w.drew) (fin := fin) _ _ _ _ ?_)) NoP.le
  have := ord_wp (md := .any) hc hfin hsel (by simpa using hfl) ord (listed := Array.replicate ops.size false) (fun j o _ hj => by rw [Array.getD_eq_getD_getElem?, Array.getElem?_replicate] at hj; split at hj <;> cases hj) hB F M.drew h hQ
  rw [hlen] at this
  exact this
theorem region_seq_wp {cal : Cal} {keep : Bool} (hc : CalOk P keep cal) {nt id : Nat} {ops : Array Oper} {Q : Exit → Act → World → Prop} {fr fr' : Fr} {m' : Mm} {a : Act}
    (F : FR X nt fr a) (M : MR X W0 m w) (h : evSeq P cal nt ops (List.range ops.size) fr m = some (fr', m')) (hQ : ∀ a' w' X', X.Le W0.heap.size X' → FR X' nt fr' a' → MR X' W0 m' w' → Q .normal a' w') : (Code.region id ops false).wp P Q a w :=
  wp_region (seq_wp hc _ F M h hQ)
end Go.Vs.Ab
