/-
  A call that knows nothing of its caller's memory; the evaluator. No program in sight.
-/
import Derived.Test.YtinbfakpjnnagaaDoorDNAi
namespace Go.Vs.Ab
open Go.RowKit
variable {P : Program} {X : Mem} {W0 w w' : World} {m : Mm}
def shut : AV → Option AV
  | .c x => some (.c x)
  | .agg cs => some (.agg cs)
  | .own _ n cs => some (.c (.sl false n cs))
  | .cptr cs => some (.cptr cs)
  | .fn f [] [] => some (.fn f [] [])
  | _ => none
def shuts : List AV → Option (List AV)
  | [] => some []
  | x :: r => match shut x, shuts r with
    | some c, some cs => some (c :: cs)
    | _, _ => none
def Mem.bare (X : Mem) : Mem := ⟨X.cell, fun _ => none, fun _ => none, X.room⟩
theorem shut_rep {Y : Mem} (hY : Y.cell = X.cell) {c d : AV} {x : Value} (h : shut c = some d) (hr : Rep X c x) : Rep Y d x := by
  unfold shut at h
  split at h
  · injection h with h
    subst h
    cases hr with | c hr => exact .c (hY ▸ hr)
  · injection h with h
    subst h
    cases hr with | agg hr => exact .agg (hY ▸ hr)
  · injection h with h
    subst h
    exact .c (hY ▸ hr.ro)
  · injection h with h
    subst h
    cases hr with | cptr hr hx => exact .cptr (hY ▸ hr) (hY ▸ hx)
  · injection h with h
    subst h
    cases hr with | fn h1 h2 h3 h4 => exact .fn h1 (fun i c x h => by simp at h) h3 (fun i c x h => by simp at h)
  · cases h
theorem shuts_rep {Y : Mem} (hY : Y.cell = X.cell) : ∀ {cs ds : List AV} {xs : List Value}, shuts cs = some ds → Reps X cs xs → Reps Y ds xs
  | [], ds, xs, h, hr => by
    simp [shuts] at h
    subst h
    exact ⟨hr.1, fun i c x h => by cases h⟩
  | x :: r, ds, xs, h, hr => by
    unfold shuts at h
    split at h
    · rename_i c es h1 h2
      injection h with h
      subst h
      cases xs with
      | nil => have := hr.1; simp at this
      | cons y ys =>
        have ih := shuts_rep hY (xs := ys) h2 ⟨by simpa using hr.1, fun i c x h2 h3 => hr.2 (i + 1) c x (by simpa using h2) (by simpa using h3)⟩
        refine ⟨by simp [ih.1], fun i e z h3 h4 => ?_⟩
        cases i with
        | zero => simp at h3 h4; subst h3 h4; exact shut_rep hY h1 (hr.2 0 _ _ rfl rfl)
        | succ i => exact ih.2 i e z (by simpa using h3) (by simpa using h4)
    · cases h
def ret1 (m1 m : Mm) : AV → Option (AV × Mm)
  | .own k n cs => match m1.hw[k]? with
    | some h => if Nat.beq h.n n then some (.own m.hw.length n cs, { m with hw := m.hw ++ [h] }) else some (.c (.sl false n cs), m)
    | none => none
  | x => (shut x).map fun y => (y, m)
def retV (m1 m : Mm) : AV → Option (AV × Mm)
  | .tup (x :: r) => match ret1 m1 m x, shuts r with
    | some (y, m'), some r' => some (.tup (y :: r'), m')
    | _, _ => none
  | .tup [] => some (.tup [], m)
  | x => ret1 m1 m x
theorem bare_MR (M : MR X W0 m w) : MR X.bare w ⟨[], []⟩ w :=
  ⟨Below.refl _ w, M.cell, (fun _ _ h => by cases h), (fun _ _ h => by simp at h), (fun _ _ _ _ _ h => by cases h), (fun _ _ h => by cases h), (fun _ _ h => by simp at h), (fun _ _ _ _ h => by cases h), M.gl.below M.below, M.rm⟩
theorem back_MR (M : MR X W0 m w) {X1 : Mem} {m1 : Mm} (L : X.bare.Le w.heap.size X1) (M1 : MR X1 w m1 w') : MR ⟨X1.cell, X.loc, X.own, X1.room⟩ W0 m w' ∧ X.Le W0.heap.size ⟨X1.cell, X.loc, X.own, X1.room⟩ := by
  have hold : ∀ b o, b < w.heap.size → X.cell b o = none → X1.cell b o = none := fun b o hb hn => by
    cases h : X1.cell b o with
    | none => rfl
    | some x =>
      have : X.cell b o = some x := L.old b o x hb h
      rw [hn] at this
      cases this
  have hle : X.Le W0.heap.size ⟨X1.cell, X.loc, X.own, X1.room⟩ :=
    ⟨fun b o x h => L.cell b o x h, fun b o x hb h => L.old b o x (Nat.lt_of_lt_of_le hb M.below.size) h, fun _ _ h => h, fun k T h => ⟨T, h, Or.inl rfl⟩, L.room⟩
  refine ⟨⟨M.below.trans (M1.below.mono M.below.size), M1.cell, M.ldom, fun i blk h => ?_, M.inj, M.odom, fun k n h => ?_, M.oinj, M.gl, M1.rm⟩, hle⟩
  · obtain ⟨β, h1, h2, hb, hB⟩ := M.locs i blk h
    exact ⟨β, h1, h2, Nat.lt_of_lt_of_le hb M1.below.size, hB.move hle (fun _ => M1.below.block β hb) fun _ h o => hold β o hb (h o)⟩
  · obtain ⟨T, h1, h2, h3, h4, h5, h6, ⟨cur, h7, h8⟩, h9, h10⟩ := M.toks k n h
    have hb := (M.tokBlock h1).1
    exact ⟨T, h1, h2, h3, h4, h5, h6, ⟨cur, by rw [M1.below.block T.g hb]; exact h7, h8⟩, fun o ho => hold T.g o hb (h9 o ho), h10⟩
theorem ret1_ok (M : MR X W0 m w) {X1 : Mem} {m1 : Mm} (L : X.bare.Le w.heap.size X1) (M1 : MR X1 w m1 w') {r c : AV} {m' : Mm} {v : Value} (h : ret1 m1 m r = some (c, m')) (hr : Rep X1 r v) :
    ∃ X', X.Le W0.heap.size X' ∧ X'.cell = X1.cell ∧ X'.loc = X.loc ∧ Rep X' c v ∧ MR X' W0 m' w' := by
  obtain ⟨B, hle⟩ := back_MR M L M1
  have other : (shut r).map (fun y => (y, m)) = some (c, m') → ∃ X', X.Le W0.heap.size X' ∧ X'.cell = X1.cell ∧ X'.loc = X.loc ∧ Rep X' c v ∧ MR X' W0 m' w' := fun h => by
    simp only [Option.map_eq_some_iff, Prod.mk.injEq] at h
    obtain ⟨y, h1, rfl, rfl⟩ := h
    exact ⟨_, hle, rfl, rfl, shut_rep (X := X1) (Y := ⟨X1.cell, X.loc, X.own, X1.room⟩) rfl h1 hr, B⟩
  unfold ret1 at h
  split at h
  · rename_i k n cs
    split at h
    · rename_i H hH
      split at h
      · rename_i hn
        have hn := Nat.eq_of_beq_eq_true hn
        simp only [Option.some.injEq, Prod.mk.injEq] at h
        obtain ⟨rfl, rfl⟩ := h
        obtain ⟨T, h1, ⟨h2, h2e, h2s⟩, h3, h4, h5, h6, h7, h8, h9⟩ := M1.toks k H hH
        have hnone : ∀ S, X.own m.hw.length = some S → False := fun S hS => by have := M.odom _ S hS; omega
        have hgo : ∀ j S, X.own j = some S → S.g ≠ T.g := fun j S hS e => by have := (M.tokBlock hS).1; omega
        cases hr with
        | own hr hn1 hc hx ht =>
          obtain ⟨T', t1, t2, t3⟩ := ht
          rw [h1] at t1
          injection t1 with t1
          subst t1
          obtain ⟨rfl, rfl⟩ := t3 (by omega)
          have hO : ∀ j S, (Mem.setOwn ⟨X1.cell, X.loc, X.own, X1.room⟩ m.hw.length T).own j = some S → (j = m.hw.length ∧ S = T) ∨ (j ≠ m.hw.length ∧ X.own j = some S) := fun j S hS => by
            simp only [Mem.setOwn] at hS
            split at hS
            · rename_i e; injection hS with hS; exact Or.inl ⟨e, hS.symm⟩
            · rename_i e; exact Or.inr ⟨e, hS⟩
          have hle2 : Mem.Le W0.heap.size ⟨X1.cell, X.loc, X.own, X1.room⟩ (Mem.setOwn ⟨X1.cell, X.loc, X.own, X1.room⟩ m.hw.length T) := by
            refine ⟨fun _ _ _ h => h, fun _ _ _ _ h => h, fun _ _ h => h, fun j S hS => ⟨S, ?_, Or.inl rfl⟩, fun _ => Nat.le_refl _⟩
            simp only [Mem.setOwn]
            rw [if_neg (fun e => by subst e; exact hnone S hS)]
            exact hS
          refine ⟨Mem.setOwn ⟨X1.cell, X.loc, X.own, X1.room⟩ m.hw.length T, hle.trans hle2, rfl, rfl, .own hr hn1 hc hx ⟨T, by simp [Mem.setOwn], t2, fun _ => ⟨rfl, rfl⟩⟩, ⟨B.below, B.cell, B.ldom, fun i blk hi => ?_, B.inj, fun j S hS => ?_, fun j q hq => ?_, fun i j S S' g1 g2 he => ?_, B.gl, B.rm⟩⟩
          · obtain ⟨β, q1, q2, q3, hB⟩ := B.locs i blk hi
            exact ⟨β, q1, q2, q3, hB.move hle2 (fun _ => rfl) (fun _ h => h)⟩
          · rcases hO j S hS with ⟨rfl, _⟩ | ⟨_, h'⟩
            · simp
            · have := M.odom j S h'; simp; omega
          · by_cases hj : j < m.hw.length
            · simp only [List.getElem?_append_left hj] at hq
              obtain ⟨S, q1, q2⟩ := B.toks j q hq
              exact ⟨S, by simp only [Mem.setOwn]; rw [if_neg (by omega)]; exact q1, q2⟩
            · simp only [List.getElem?_append_right (Nat.le_of_not_lt hj)] at hq
              have hj2 : j - m.hw.length = 0 := by
                have := (List.getElem?_eq_some_iff.1 hq).1
                simp at this
                omega
              rw [hj2] at hq
              simp at hq
              subst hq
              obtain rfl : j = m.hw.length := by omega
              exact ⟨T, by simp [Mem.setOwn], ⟨h2, h2e, h2s⟩, Nat.le_trans M.below.size h3, h4, h5, h6, h7, h8, fun i hi => by have := (M.locBlock hi).1; omega⟩
          · rcases hO i S g1 with ⟨rfl, rfl⟩ | ⟨_, k1⟩
            · rcases hO j S' g2 with ⟨rfl, rfl⟩ | ⟨_, k2⟩
              · rfl
              · exact absurd he.symm (hgo j S' k2)
            · rcases hO j S' g2 with ⟨rfl, rfl⟩ | ⟨_, k2⟩
              · exact absurd he (hgo i S k1)
              · exact M.oinj i j S S' k1 k2 he
      · simp only [Option.some.injEq, Prod.mk.injEq] at h
        obtain ⟨rfl, rfl⟩ := h
        exact ⟨_, hle, rfl, rfl, .c hr.ro, B⟩
    · cases h
  · exact other h
theorem retV_ok (M : MR X W0 m w) {X1 : Mem} {m1 : Mm} (L : X.bare.Le w.heap.size X1) (M1 : MR X1 w m1 w') {r c : AV} {m' : Mm} {v : Value} (h : retV m1 m r = some (c, m')) (hr : Rep X1 r v) :
    ∃ X', X.Le W0.heap.size X' ∧ X'.loc = X.loc ∧ Rep X' c v ∧ MR X' W0 m' w' := by
  unfold retV at h
  split at h
  · rename_i x rest
    split at h
    · rename_i y m2 r' h1 h2
      simp only [Option.some.injEq, Prod.mk.injEq] at h
      obtain ⟨rfl, rfl⟩ := h
      cases hr with
      | tup hl hr =>
        rename_i xs
        obtain ⟨ys⟩ := xs
        cases ys with
        | nil => simp at hl
        | cons z zs =>
          obtain ⟨X', g1, g2, g3, g4, g5⟩ := ret1_ok M L M1 h1 (hr 0 _ _ rfl rfl)
          have := shuts_rep (Y := X') (X := X1) g2 h2 (xs := zs) ⟨by simpa using hl, fun i c x h3 h4 => hr (i + 1) c x (by simpa using h3) (by simpa using h4)⟩
          refine ⟨X', g1, g3, .tup (by simp [this.1]) (fun i c x h3 h4 => ?_), g5⟩
          cases i with
          | zero => simp at h3 h4; subst h3 h4; exact g4
          | succ i => exact this.2 i c x (by simpa using h3) (by simpa using h4)
    · cases h
  · simp only [Option.some.injEq, Prod.mk.injEq] at h
    obtain ⟨rfl, rfl⟩ := h
    obtain ⟨B, hle⟩ := back_MR M L M1
    cases hr with
    | tup hl hr => exact ⟨_, hle, rfl, .tup hl (fun i c x h => by cases h), B⟩
  · obtain ⟨X', g1, g2, g3, g4, g5⟩ := ret1_ok M L M1 h hr
    exact ⟨X', g1, g3, g4, g5⟩
def pureCal (cal : Cal) : Cal := fun F args m => match shuts args with
  | some args' => match cal F args' ⟨[], []⟩ with
    | some (r, m1) => retV m1 m r
    | none => none
  | none => none
theorem pureCal_ok {cal : Cal} {k : Bool} (hc : CalOk P k cal) : CalOk P true (pureCal cal) := by
  intro F args m r m' h
  unfold pureCal at h
  split at h
  · rename_i args' ha
    split at h
    · rename_i r1 m1 h1
      obtain ⟨hcb, hcl⟩ := hc F args' ⟨[], []⟩ r1 m1 h1
      refine ⟨hcb, fun X W0 w vs M hargs => ?_⟩
      refine (hcl X.bare w w vs (bare_MR M) (shuts_rep (X := X) (Y := X.bare) rfl ha hargs)).mono ?_
      rintro _ w' ⟨v, X1, rfl, k1, k2, k3, _⟩
      obtain ⟨X', g1, g2, g3, g4⟩ := retV_ok M k1 k3 h k2
      exact ⟨v, X', rfl, g1, g3, g4, fun _ i β hi => k3.below.block β (M.locBlock hi).1⟩
    · cases h
  · cases h
theorem CalOk.weak {a : Cal} {k : Bool} (h : CalOk P k a) : CalOk P false a := fun F args m r m' hh => by
  obtain ⟨h1, h2⟩ := h F args m r m' hh
  exact ⟨h1, fun X W0 w vs M A => (h2 X W0 w vs M A).mono (by rintro _ w' ⟨v, X', e, k1, k2, k3, _⟩; exact ⟨v, X', e, k1, k2, k3, fun h => by cases h⟩)⟩
def bothCal (cal : Cal) : Cal := fun F args m => match shuts args with
  | some _ => pureCal cal F args m
  | none => cal F args m
theorem bothCal_ok {cal : Cal} (hc : CalOk P false cal) : CalOk P false (bothCal cal) := by
  intro F args m r m' h
  unfold bothCal at h
  split at h
  · exact (pureCal_ok hc).weak F args m r m' h
  · exact hc F args m r m' h
def evFun (P : Program) (H : FuncId → Hint) : Nat → Cal
  | 0 => fun _ _ _ => none
  | n + 1 => fun F args m => match P.funcs[F]? with
    | some fn => evBody P (bothCal (evFun P H n)) (pureCal (evFun P H n)) (H F) n fn args m
    | none => none
theorem evFun_ok (hm : P.follows .mixedOrders = true) {H : FuncId → Hint} : ∀ n, CalOk P false (evFun P H n)
  | 0 => fun F args m r m' h => by cases h
  | n + 1 => fun F args m r m' h => by
    unfold evFun at h
    split at h
    · rename_i fn hF
      obtain ⟨h1, h2⟩ := evBody_ok (bothCal_ok (evFun_ok hm n)) (pureCal_ok (evFun_ok hm n)) hm hF h
      exact ⟨h1, fun X W0 w vs M A => (h2 X W0 w vs M A).mono (by rintro _ w' ⟨v, X', e, k1, k2, k3⟩; exact ⟨v, X', e, k1, k2, k3, fun h => by cases h⟩)⟩
    · cases h
end Go.Vs.Ab
namespace Go.Vs.Ab
def answer (r : Option (AV × Mm)) : Option Value := match r with
  | some (c, _) => c.val
  | none => none
def lookH : List ((Nat × Nat) × Nat × List Nat × List Nat) → FuncId → Hint
  | [], _, _ => none
  | ((f, i), x) :: r, g, j => if Nat.beq f g && Nat.beq i j then some x else lookH r g j
end Go.Vs.Ab
