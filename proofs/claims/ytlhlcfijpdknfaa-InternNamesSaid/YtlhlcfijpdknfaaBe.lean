/-
  A region that draws its order, where no operation changes abstract memory: one walk in the order of the text. No program in sight.
-/
import Derived.Test.YtlhlcfijpdknfaaAt
set_option linter.unusedVariables false
set_option linter.unusedSimpArgs false
namespace Go.Vs.Ab
open Go.RowKit

variable {P : Program} {X : Mem} {W0 w w' : World} {m : Mm} {nt : Nat}

/-! ### an operation reads its operands' slots alone -/
def AgF (x : Operand) (fr fr' : Fr) : Prop := ∀ t, x = .tmp t → find fr t = find fr' t
theorem opd_congr {x : Operand} {fr fr' : Fr} (h : AgF x fr fr') : opd fr x = opd fr' x := by
  cases x with
  | tmp t => exact h t rfl
  | _ => rfl
theorem opdV_congr {x : Operand} {fr fr' : Fr} (h : AgF x fr fr') : opdV fr x = opdV fr' x := by
  cases x with
  | tmp t => simp only [opdV, h t rfl]
  | _ => rfl
theorem oprs_congr {fr fr' : Fr} : ∀ {l : List Operand}, (∀ x ∈ l, AgF x fr fr') → oprs fr l = oprs fr' l
  | [], _ => rfl
  | x :: l, h => by
    unfold oprs
    rw [opd_congr (h x (by simp)), oprs_congr fun y hy => h y (by simp [hy])]
theorem oprsV_congr {fr fr' : Fr} : ∀ {l : List Operand}, (∀ x ∈ l, AgF x fr fr') → oprsV fr l = oprsV fr' l
  | [], _ => rfl
  | x :: l, h => by
    unfold oprsV
    rw [opdV_congr (h x (by simp)), oprsV_congr fun y hy => h y (by simp [hy])]
theorem oprps_congr {fr fr' : Fr} : ∀ {l : List (Nat × Operand)}, (∀ x ∈ l.map (·.2), AgF x fr fr') → oprps fr l = oprps fr' l
  | [], _ => rfl
  | (i, x) :: l, h => by
    unfold oprps
    rw [opd_congr (h x (by simp)), oprps_congr fun y hy => h y (by simp only [List.map_cons, List.mem_cons]; exact Or.inr hy)]
theorem bnd_congr {fr fr' : Fr} {x : Option Operand} (h : ∀ y, x = some y → AgF y fr fr') : bnd fr x = bnd fr' x := by
  cases x with
  | none => rfl
  | some y => simp only [bnd, opd_congr (h y rfl)]
theorem optV_congr {fr fr' : Fr} {x : Option Operand} (h : ∀ y, x = some y → AgF y fr fr') : optV fr x = optV fr' x := by
  cases x with
  | none => rfl
  | some y => simp only [optV, opdV_congr (h y rfl)]

theorem calmB_congr {fr fr' : Fr} {ty : TypeId} {b : Builtin} {args : List Operand} {ts : Array TypeId} (h : ∀ x ∈ args, AgF x fr fr') : calmB P fr m ty b args ts = calmB P fr' m ty b args ts := by
  unfold calmB
  cases b <;> try rfl
  · cases args with
    | nil => rfl
    | cons x r =>
      cases r with
      | nil =>
        have h1 := opd_congr (h x (by simp))
        have h2 := opdV_congr (h x (by simp))
        cases ts[0]? with
        | none => rfl
        | some t => simp only [h1, h2]
      | cons => rfl
  · simp only [oprsV_congr h]
  · simp only [oprsV_congr h]

theorem evOp_congr {fr fr' : Fr} {o : Oper} (h : ∀ x ∈ o.op.operands.toList, AgF x fr fr') : evOp P fr m o = evOp P fr' m o := by
  obtain ⟨dst, op, type, pos, after, guard⟩ := o
  cases op <;> simp only [Op.operands] at h <;> try rfl
  case move x => simp only [evOp, calm, opd_congr (h x (by simp))]
  case assign x => simp only [evOp, calm, opd_congr (h x (by simp))]
  case pick x y z => simp only [evOp, calm, opd_congr (h x (by simp)), opd_congr (h y (by simp)), opd_congr (h z (by simp))]
  case box t x => simp only [evOp, opd_congr (h x (by simp))]
  case load t x => simp only [evOp, calm, opd_congr (h x (by simp))]
  case store t x y => simp only [evOp, opd_congr (h x (by simp)), opd_congr (h y (by simp))]
  case nilCheck x => simp only [evOp, calm, opd_congr (h x (by simp))]
  case binOp op t x y yt => simp only [evOp, calm, opdV_congr (h x (by simp)), opdV_congr (h y (by simp)), opd_congr (h x (by simp))]
  case makeInterface t x => simp only [evOp, calm, opd_congr (h x (by simp))]
  case typeAssert x u t ok => simp only [evOp, calm, opd_congr (h x (by simp))]
  case unOp op t x => simp only [evOp, calm, opdV_congr (h x (by simp))]
  case convert s d x => simp only [evOp, calm, opdV_congr (h x (by simp))]
  case makeFunc f a b => simp only [evOp, calm, oprs_congr (l := a.toList) (fun x hx => h x (by simp at hx ⊢; exact Or.inl hx)), oprs_congr (l := b.toList) (fun x hx => h x (by simp at hx ⊢; exact Or.inr hx))]
  case buildSlice t n ps => simp only [evOp, oprps_congr (l := ps.toList) (fun x hx => h x (by simpa using hx))]
  case slice t x lo hi mx =>
    have h1 := opd_congr (h x (by simp))
    have h2 := bnd_congr (x := lo) (fr := fr) (fr' := fr') (fun y hy => h y (by subst hy; simp))
    have h3 := bnd_congr (x := hi) (fr := fr) (fr' := fr') (fun y hy => h y (by subst hy; simp))
    have h4 := bnd_congr (x := mx) (fr := fr) (fr' := fr') (fun y hy => h y (by subst hy; simp))
    have g2 := optV_congr (x := lo) (fr := fr) (fr' := fr') (fun y hy => h y (by subst hy; simp))
    have g3 := optV_congr (x := hi) (fr := fr) (fr' := fr') (fun y hy => h y (by subst hy; simp))
    have g4 := optV_congr (x := mx) (fr := fr) (fr' := fr') (fun y hy => h y (by subst hy; simp))
    simp only [evOp, calm, h1, h2, h3, h4, g2, g3, g4]
  case fieldAddr s x f => simp only [evOp, calm, opd_congr (h x (by simp))]
  case field t x f => simp only [evOp, calm, opd_congr (h x (by simp))]
  case indexAddr t x ix => simp only [evOp, calm, opd_congr (h x (by simp)), opd_congr (h ix (by simp))]
  case index t x ix => simp only [evOp, calm, opd_congr (h x (by simp)), opd_congr (h ix (by simp))]
  case lookup t x k ok => simp only [evOp, calm, opd_congr (h x (by simp)), opdV_congr (h k (by simp))]
  case mapUpdate t x k v => simp only [evOp, opd_congr (h x (by simp)), opdV_congr (h k (by simp)), opdV_congr (h v (by simp))]
  case insert t x k v => simp only [evOp, opd_congr (h x (by simp)), opdV_congr (h k (by simp)), opdV_congr (h v (by simp))]
  case extract x i => simp only [evOp, calm, opd_congr (h x (by simp))]
  case build t ps => simp only [evOp, calm, oprps_congr (l := ps.toList) (fun x hx => h x (by simpa using hx))]
  case call c =>
    obtain ⟨callee, args, ts⟩ := c
    have ha : ∀ x ∈ args.toList, AgF x fr fr' := fun x hx => h x (by simp only [Call.operands, Array.toList_append, List.mem_append]; exact Or.inr hx)
    cases callee with
    | value f =>
      have hf := opd_congr (h f (by simp [Call.operands]))
      simp only [evOp, hf, oprs_congr ha]
    | invoke r n =>
      have hf := opd_congr (h r (by simp [Call.operands]))
      simp only [evOp, hf, oprs_congr ha]
    | builtin b =>
      have hB := calmB_congr (P := P) (m := m) (ty := type) (b := b) (ts := ts) ha
      by_cases hb : b = .append
      · subst hb
        cases hl : args.toList with
        | nil => simp only [evOp, hl]
        | cons s r =>
          cases r with
          | nil => simp only [evOp, hl]
          | cons x r =>
            cases r with
            | nil =>
              rw [hl] at ha
              have h1 := opd_congr (ha s (by simp))
              have h2 := opd_congr (ha x (by simp))
              cases hts : ts.toList with
              | nil => simp only [evOp, hl, hts]
              | cons t r =>
                cases r with
                | nil => simp only [evOp, hl, hts]
                | cons u r =>
                  cases r with
                  | nil => simp only [evOp, hl, hts, h1, h2]
                  | cons => simp only [evOp, hl, hts]
            | cons => simp only [evOp, hl]
      · by_cases hb2 : b = .clear
        · subst hb2
          cases hl : args.toList with
          | nil => simp only [evOp, hl]
          | cons s r =>
            cases r with
            | nil =>
              rw [hl] at ha
              have h1 := opd_congr (ha s (by simp))
              cases hts : ts.toList with
              | nil => simp only [evOp, hl, hts]
              | cons t r =>
                cases r with
                | nil => simp only [evOp, hl, hts, h1]
                | cons => simp only [evOp, hl, hts]
            | cons => simp only [evOp, hl]
        · by_cases hb3 : b = .delete
          · subst hb3
            cases hl : args.toList with
            | nil => simp only [evOp, hl]
            | cons s r =>
              cases r with
              | nil => simp only [evOp, hl]
              | cons x r =>
                cases r with
                | nil =>
                  rw [hl] at ha
                  have h1 := opd_congr (ha s (by simp))
                  have h2 := opdV_congr (ha x (by simp))
                  cases hts : ts.toList with
                  | nil => simp only [evOp, hl, hts]
                  | cons t r =>
                    cases r with
                    | nil => simp only [evOp, hl, hts]
                    | cons u r =>
                      cases r with
                      | nil => simp only [evOp, hl, hts, h1, h2]
                      | cons => simp only [evOp, hl, hts]
                | cons => simp only [evOp, hl]
          · have e : ∀ f : Fr, evOp P f m ⟨dst, .call ⟨.builtin b, args, ts⟩, type, pos, after, guard⟩ = (calmB P f m type b args.toList ts).map .calm := fun f => by
              cases b <;> first | rfl | exact absurd rfl hb | exact absurd rfl hb2 | exact absurd rfl hb3
            rw [e fr, e fr', hB]

/-! ### whatever the order -/
def AgW (ops : Array Oper) (o : Oper) (fr fr' : Fr) : Prop := ∀ j b d, o.guard = some (j, b) → (ops[j]?).bind (·.dst) = some d → find fr d = find fr' d
theorem aWanted_congr {ops : Array Oper} {o : Oper} {fr fr' : Fr} (h : AgW ops o fr fr') : aWanted ops fr o = aWanted ops fr' o := by
  unfold aWanted
  cases hg : o.guard with
  | none => rfl
  | some jb =>
    obtain ⟨j, b⟩ := jb
    simp only
    cases hd : (ops[j]?).bind (·.dst) with
    | none => rfl
    | some d => simp only [h j b d hg hd]

/-- What an operation yields, where it leaves memory as it is. -/
inductive Yd (P : Program) (ops : Array Oper) (o : Oper) (fr : Fr) (m : Mm) (c : AV) : Prop
  | off (h : aWanted ops fr o = some false) (hc : c = .tup [])
  | calm (h : aWanted ops fr o = some true) (he : evOp P fr m o = some (.calm c))
  | frz (h : aWanted ops fr o = some true) (he : evOp P fr m o = some (.frz c m))
  | loud (h : aWanted ops fr o = some true) (he : evOp P fr m o = some (.loud c m))
  | call {F : FuncId} {args : List AV} (h : aWanted ops fr o = some true) (he : evOp P fr m o = some (.call F args)) (hg : Gives P F args m c m)
  | store (h : aWanted ops fr o = some true) (he : evOp P fr m o = some (.store m)) (hc : c = .tup [])
  | wr (h : aWanted ops fr o = some true) (he : evOp P fr m o = some (.wr c m))
  | callW {F : FuncId} {args : List AV} (h : aWanted ops fr o = some true) (he : evOp P fr m o = some (.call F args)) (hg : GivesW P F args m c m)
  | app {k n : Nat} {cs : List CV} {m1 : Mm} (h : aWanted ops fr o = some true) (he : evOp P fr m o = some (.loud (.own k n cs) m1)) (hk : Keep m m1) (hc : c = .c (.sl false n cs))
def putF (fr : Fr) : Option Tmp → AV → Fr
  | none, _ => fr
  | some d, c => ins fr d c
def OkD (nt : Nat) (d : Option Tmp) : Prop := ∀ t, d = some t → Nat.blt t nt = true

def isApp : Op → Bool
  | .call c => match c.callee with
    | .builtin .append => true
    | _ => false
  | _ => false
/-- An append, in a region where memory stays: what it makes is known, no room behind it. -/
def AppE (nt : Nat) (fr : Fr) (m : Mm) (dst : Option Tmp) (K : Fr → Prop) : Option Ev → Prop
  | some (.loud (.own _ n cs) m1) => (m1.hp = m.hp ∧ m1.hw.take m.hw.length = m.hw) ∧ PutW nt fr dst (.c (.sl false n cs)) K
  | _ => False
def AppW (P : Program) (nt : Nat) (ops : Array Oper) (o : Oper) (fr : Fr) (m : Mm) (b : Option Bool) (K : Fr → Prop) : Prop :=
  match b with
  | none => False
  | some false => PutW nt fr o.dst (.tup []) K
  | some true => AppE nt fr m o.dst K (evOp P fr m o)
theorem appW_true {ops : Array Oper} {o : Oper} {fr : Fr} {K : Fr → Prop} : AppW P nt ops o fr m (some true) K = AppE nt fr m o.dst K (evOp P fr m o) := rfl
theorem appW_false {ops : Array Oper} {o : Oper} {fr : Fr} {K : Fr → Prop} : AppW P nt ops o fr m (some false) K = PutW nt fr o.dst (.tup []) K := rfl
theorem appE_own {fr : Fr} {dst : Option Tmp} {K : Fr → Prop} {k n : Nat} {cs : List CV} {m1 : Mm} : AppE nt fr m dst K (some (.loud (.own k n cs) m1)) = ((m1.hp = m.hp ∧ m1.hw.take m.hw.length = m.hw) ∧ PutW nt fr dst (.c (.sl false n cs)) K) := rfl
@[congr] theorem appW_congr {ops : Array Oper} {o : Oper} {fr : Fr} {b b' : Option Bool} {K : Fr → Prop} (h : b = b') : AppW P nt ops o fr m b K = AppW P nt ops o fr m b' K := by rw [h]
@[congr] theorem appE_congr {fr : Fr} {dst : Option Tmp} {K : Fr → Prop} {e e' : Option Ev} (h : e = e') : AppE nt fr m dst K e = AppE nt fr m dst K e' := by rw [h]

def SeqM (P : Program) (nt : Nat) (ops : Array Oper) : List Oper → Fr → Mm → (Fr → Mm → Prop) → Prop
  | [], fr, m, Q => Q fr m
  | o :: r, fr, m, Q => if isApp o.op then AppW P nt ops o fr m (aWanted ops fr o) fun fr' => SeqM P nt ops r fr' m Q else StepW P nt ops o fr m fun kd fr' m' => (True ∧ m' = m) ∧ SeqM P nt ops r fr' m' Q

theorem putW_out {fr : Fr} {dst : Option Tmp} {c : AV} {K : Fr → Prop} (h : PutW nt fr dst c K) : OkD nt dst ∧ K (putF fr dst c) := by
  cases dst with
  | none => exact ⟨fun t ht => (by cases ht), h⟩
  | some d => exact ⟨fun t ht => (by injection ht with ht; subst ht; exact h.1), h.2⟩
theorem putW_in {fr : Fr} {dst : Option Tmp} {c : AV} {K : Fr → Prop} (h : OkD nt dst) (hK : K (putF fr dst c)) : PutW nt fr dst c K := by
  cases dst with
  | none => exact hK
  | some d => exact ⟨h d rfl, hK⟩
theorem stepM_out {ops : Array Oper} {o : Oper} {fr : Fr} {K : Fr → Mm → Prop} (h : StepW P nt ops o fr m fun kd fr' m' => (True ∧ m' = m) ∧ K fr' m') : ∃ c, Yd P ops o fr m c ∧ OkD nt o.dst ∧ K (putF fr o.dst c) m := by
  unfold StepW OpW at h
  split at h
  · exact h.elim
  · rename_i hw
    obtain ⟨h1, h2, h3⟩ := putW_out h
    exact ⟨_, .off hw rfl, h1, h3⟩
  · rename_i hw
    unfold EvW at h
    split at h
    · exact h.elim
    · rename_i c he
      obtain ⟨h1, h2, h3⟩ := putW_out h
      exact ⟨_, .calm hw he, h1, h3⟩
    · rename_i c m1 he
      obtain ⟨h1, ⟨_, rfl⟩, h3⟩ := putW_out h
      exact ⟨_, .frz hw he, h1, h3⟩
    · rename_i c m1 he
      obtain ⟨h1, ⟨_, rfl⟩, h3⟩ := putW_out h
      exact ⟨_, .loud hw he, h1, h3⟩
    · rename_i m1 he
      obtain ⟨h1, ⟨_, rfl⟩, h3⟩ := putW_out h
      exact ⟨_, .store hw he rfl, h1, h3⟩
    · rename_i c m1 he
      obtain ⟨h1, ⟨_, rfl⟩, h3⟩ := putW_out h
      exact ⟨_, .wr hw he, h1, h3⟩
    · rename_i F args he
      obtain ⟨r0, m0, ⟨hg, h⟩ | ⟨hg, h⟩⟩ := h
      · obtain ⟨h1, ⟨_, rfl⟩, h3⟩ := putW_out h
        exact ⟨_, .call hw he hg, h1, h3⟩
      · obtain ⟨h1, ⟨_, rfl⟩, h3⟩ := putW_out h
        exact ⟨_, .callW hw he hg, h1, h3⟩
theorem appM_out {ops : Array Oper} {o : Oper} {fr : Fr} {K : Fr → Prop} (h : AppW P nt ops o fr m (aWanted ops fr o) K) : ∃ c, Yd P ops o fr m c ∧ OkD nt o.dst ∧ K (putF fr o.dst c) := by
  unfold AppW at h
  split at h
  · exact h.elim
  · rename_i hw
    obtain ⟨h1, h2⟩ := putW_out h
    exact ⟨_, .off hw rfl, h1, h2⟩
  · rename_i hw
    unfold AppE at h
    split at h
    · rename_i k n cs m1 he
      obtain ⟨⟨e1, e2⟩, h⟩ := h
      obtain ⟨h1, h2⟩ := putW_out h
      refine ⟨_, .app hw he ⟨⟨[], by rw [e1, List.append_nil]⟩, ⟨m1.hw.drop m.hw.length, ?_⟩⟩ rfl, h1, h2⟩
      have := List.take_append_drop m.hw.length m1.hw
      rw [e2] at this
      exact this.symm
    · exact h.elim

/-! ### what a world lets a value lead to -/
theorem lows_of {i j : Nat} : ∀ {cs : List AV}, (∀ (k : Nat) (c : AV), cs[k]? = some c → low i j c = true) → lows i j cs = true
  | [], _ => rfl
  | c :: r, h => by
    simp only [lows, Bool.and_eq_true]
    exact ⟨h 0 c rfl, lows_of fun k d hd => h (k + 1) d (by simpa using hd)⟩
theorem Rep.low {A B : Nat} (hl : ∀ i β, X.loc i = some β → i < A) (ho : ∀ k T, X.own k = some T → k < B) {c : AV} {x : Value} (h : Rep X c x) : Ab.low A B c = true := by
  have key : ∀ {vs : List AV} {xs : List Value}, vs.length = xs.length → (∀ (i : Nat) (c : AV) (x : Value), vs[i]? = some c → xs[i]? = some x → Ab.low A B c = true) → lows A B vs = true := fun {vs xs} hlen ih => lows_of fun k c hc => by
    have hk := (List.getElem?_eq_some_iff.1 hc).1
    exact ih k c _ hc (List.getElem?_eq_getElem (by rw [← hlen]; exact hk))
  induction h with
  | c h => rfl
  | agg h => rfl
  | tup hl' _ ih => simp only [Ab.low]; exact key hl' ih
  | own h hn hc hx ht =>
    obtain ⟨T, h1, _⟩ := ht
    simp only [Ab.low, Nat.blt_eq]
    exact ho _ T h1
  | ptr h => simp only [Ab.low, Nat.blt_eq]; exact hl _ _ h
  | cptr h hx => rfl
  | fn h1 _ h3 _ ih1 ih2 => simp only [Ab.low, Bool.and_eq_true]; exact ⟨key h1 ih1, key h3 ih2⟩
  | lsl h _ _ _ _ => simp only [Ab.low, Nat.blt_eq]; exact hl _ _ h
  | mapp h => simp only [Ab.low, Nat.blt_eq]; exact hl _ _ h
  | ifc _ ih => simp only [Ab.low]; exact ih
  | strc hl' _ _ ih => simp only [Ab.low]; exact key hl' ih
theorem MR.lowB (M : MR X W0 m w) : Ab.lowB m.hp.length m.hw.length m.hp = true := by
  have key : ∀ l : List Blk, (∀ b ∈ l, lows m.hp.length m.hw.length b.cs = true) → Ab.lowB m.hp.length m.hw.length l = true := fun l => by
    induction l with
    | nil => intro _; rfl
    | cons b l ih =>
      intro h
      simp only [Ab.lowB, Bool.and_eq_true]
      exact ⟨h b (by simp), ih fun c hc => h c (by simp [hc])⟩
  refine key _ fun b hb => ?_
  obtain ⟨i, hi, rfl⟩ := List.mem_iff_getElem.1 hb
  obtain ⟨β, _, _, _, hB⟩ := M.locs i m.hp[i] (List.getElem?_eq_getElem hi)
  cases hB with
  | dead h => rw [h]; rfl
  | ent h _ _ _ _ => rw [h]; rfl
  | cells _ _ hr _ _ =>
    refine lows_of fun k c hc => ?_
    have hk := (List.getElem?_eq_some_iff.1 hc).1
    have hlen := hr.1
    exact Rep.low (fun i β h => M.ldom i β h) (fun k T h => M.odom k T h) (hr.2 k c _ hc (List.getElem?_eq_getElem (by rw [← hlen]; exact hk)))

theorem stepM_in {ops : Array Oper} {o : Oper} {fr fr' : Fr} {c : AV} (h : Yd P ops o fr m c) (hd : OkD nt o.dst) (h1 : ∀ x ∈ o.op.operands.toList, AgF x fr fr') (h2 : AgW ops o fr fr') :
    (StepW P nt ops o fr' m fun kd fr'' m' => m' = m ∧ fr'' = putF fr' o.dst c) ∨ ∃ k n cs m1, c = .c (.sl false n cs) ∧ Keep m m1 ∧ StepW P nt ops o fr' m fun kd fr'' m' => m' = m1 ∧ fr'' = putF fr' o.dst (.own k n cs) := by
  have ew := aWanted_congr h2
  have ee := evOp_congr (P := P) (m := m) h1
  by_cases happ : ∃ k n cs m1, evOp P fr m o = some (.loud (.own k n cs) m1) ∧ Keep m m1 ∧ c = .c (.sl false n cs) ∧ aWanted ops fr o = some true
  · obtain ⟨k, n, cs, m1, he, hk, rfl, hw⟩ := happ
    refine Or.inr ⟨k, n, cs, m1, rfl, hk, ?_⟩
    unfold StepW OpW
    rw [← ew, hw]
    unfold EvW
    rw [← ee, he]
    exact putW_in hd ⟨rfl, rfl⟩
  refine Or.inl ?_
  unfold StepW OpW
  cases h with
  | app hw he hk hc => exact absurd ⟨_, _, _, _, he, hk, hc, hw⟩ happ
  | off hw hc =>
    rw [← ew, hw]
    subst hc
    exact putW_in hd ⟨rfl, rfl⟩
  | calm hw he =>
    rw [← ew, hw]
    unfold EvW
    rw [← ee, he]
    exact putW_in hd ⟨rfl, rfl⟩
  | frz hw he =>
    rw [← ew, hw]
    unfold EvW
    rw [← ee, he]
    exact putW_in hd ⟨rfl, rfl⟩
  | loud hw he =>
    rw [← ew, hw]
    unfold EvW
    rw [← ee, he]
    exact putW_in hd ⟨rfl, rfl⟩
  | call hw he hg =>
    rw [← ew, hw]
    unfold EvW
    rw [← ee, he]
    exact ⟨_, _, Or.inl ⟨hg, putW_in hd ⟨rfl, rfl⟩⟩⟩
  | store hw he hc =>
    rw [← ew, hw]
    unfold EvW
    rw [← ee, he]
    subst hc
    exact putW_in hd ⟨rfl, rfl⟩
  | wr hw he =>
    rw [← ew, hw]
    unfold EvW
    rw [← ee, he]
    exact putW_in hd ⟨rfl, rfl⟩
  | callW hw he hg =>
    rw [← ew, hw]
    unfold EvW
    rw [← ee, he]
    exact ⟨_, _, Or.inr ⟨hg, putW_in hd ⟨rfl, rfl⟩⟩⟩

/-- The frame behind those that L lists. -/
def frL (L : Nat → Bool) : List (Option Tmp × AV) → Nat → Fr → Fr
  | [], _, fr => fr
  | x :: r, i, fr => frL L r (i + 1) (if L i then putF fr x.1 x.2 else fr)
def frT : List (Option Tmp × AV) → Nat → Fr → Fr
  | [], _, fr => fr
  | _ :: _, 0, fr => fr
  | x :: r, i + 1, fr => frT r i (putF fr x.1 x.2)
theorem find_putF {fr : Fr} {d : Option Tmp} {c : AV} (t : Nat) : find (putF fr d c) t = if d = some t then some c else find fr t := by
  cases d with
  | none => simp [putF]
  | some d => simp [putF, find_ins]
theorem frL_agree {L L' : Nat → Bool} {t : Nat} : ∀ {its : List (Option Tmp × AV)} {k : Nat} {fr fr' : Fr}, (∀ i x, its[i]? = some x → x.1 = some t → L (k + i) = L' (k + i)) → find fr t = find fr' t → find (frL L its k fr) t = find (frL L' its k fr') t
  | [], _, _, _, _, h => h
  | x :: r, k, fr, fr', hw, h => by
    unfold frL
    refine frL_agree (fun i y h1 h2 => by have := hw (i + 1) y (by simpa using h1) h2; rwa [show k + 1 + i = k + (i + 1) by omega]) ?_
    by_cases hx : x.1 = some t
    · have := hw 0 x rfl hx
      rw [Nat.add_zero] at this
      rw [this]
      split
      · rw [find_putF, find_putF, if_pos hx, if_pos hx]
      · exact h
    · split <;> split
      · rw [find_putF, find_putF, if_neg hx, if_neg hx]; exact h
      · rw [find_putF, if_neg hx]; exact h
      · rw [find_putF, if_neg hx]; exact h
      · exact h
theorem frL_last {L : Nat → Bool} {t : Nat} {c : AV} : ∀ {its : List (Option Tmp × AV)} {j k : Nat} {fr : Fr}, its[j]? = some (some t, c) → L (k + j) = true → (∀ i x, its[i]? = some x → x.1 = some t → j < i → L (k + i) = false) → find (frL L its k fr) t = some c
  | [], j, k, fr, h, _, _ => by simp at h
  | x :: r, 0, k, fr, h, hL, hw => by
    simp only [List.getElem?_cons_zero, Option.some.injEq] at h
    subst h
    unfold frL
    rw [Nat.add_zero] at hL
    rw [hL, if_pos rfl]
    have e : find (frL L r (k + 1) (putF fr (some t) c)) t = find (frL (fun _ => false) r (k + 1) (putF fr (some t) c)) t := frL_agree (fun i y h1 h2 => by have := hw (i + 1) y (by simpa using h1) h2 (by omega); rwa [show k + 1 + i = k + (i + 1) by omega]) rfl
    rw [e]
    have none : ∀ (r : List (Option Tmp × AV)) (k : Nat) (fr : Fr), frL (fun _ => false) r k fr = fr := fun r => by
      induction r with
      | nil => intro k fr; rfl
      | cons y r ih => intro k fr; unfold frL; rw [if_neg (by simp)]; exact ih _ _
    rw [none, find_putF, if_pos rfl]
  | x :: r, j + 1, k, fr, h, hL, hw => by
    unfold frL
    exact frL_last (j := j) (by simpa using h) (by rwa [show k + 1 + j = k + (j + 1) by omega]) (fun i y h1 h2 h3 => by have := hw (i + 1) y (by simpa using h1) h2 (by omega); rwa [show k + 1 + i = k + (i + 1) by omega])
theorem frL_T : ∀ (its : List (Option Tmp × AV)) (i k : Nat) (fr : Fr), frL (fun q => decide (q < k + i)) its k fr = frT its i fr
  | [], _, _, _ => rfl
  | x :: r, 0, k, fr => by
    have none : ∀ (r : List (Option Tmp × AV)) (q : Nat) (fr : Fr), k ≤ q → frL (fun q => decide (q < k + 0)) r q fr = fr := fun r => by
      induction r with
      | nil => intro q fr _; rfl
      | cons y r ih => intro q fr hq; unfold frL; rw [if_neg (by simpa using hq)]; exact ih _ _ (by omega)
    exact none (x :: r) k fr (Nat.le_refl _)
  | x :: r, i + 1, k, fr => by
    unfold frL
    rw [if_pos (by simp), show k + (i + 1) = (k + 1) + i by omega]
    exact frL_T r i (k + 1) _

theorem seqM_out {ops : Array Oper} {R : Fr → Mm → Prop} : ∀ {l : List Oper} {fr : Fr}, SeqM P nt ops l fr m R → ∃ its : List (Option Tmp × AV), its.length = l.length ∧ (∀ i o, l[i]? = some o → ∃ c, its[i]? = some (o.dst, c) ∧ OkD nt o.dst ∧ Yd P ops o (frT its i fr) m c) ∧ R (frT its l.length fr) m
  | [], fr, h => ⟨[], rfl, fun i o h => by simp at h, h⟩
  | o :: r, fr, h => by
    have h0 : ∃ c, Yd P ops o fr m c ∧ OkD nt o.dst ∧ SeqM P nt ops r (putF fr o.dst c) m R := by
      unfold SeqM at h
      split at h
      · exact appM_out h
      · exact stepM_out h
    obtain ⟨c, h1, h2, h3⟩ := h0
    obtain ⟨its, g1, g2, g3⟩ := seqM_out h3
    refine ⟨(o.dst, c) :: its, by simp [g1], fun i o' ho' => ?_, g3⟩
    cases i with
    | zero =>
      simp only [List.getElem?_cons_zero, Option.some.injEq] at ho'
      subst ho'
      exact ⟨c, rfl, h2, h1⟩
    | succ i =>
      obtain ⟨c', k1, k2, k3⟩ := g2 i o' (by simpa using ho')
      exact ⟨c', by simpa using k1, k2, k3⟩

def opTmps (ops : Array Oper) (o : Oper) : List Tmp := o.op.operands.toList.filterMap (fun | .tmp t => some t | _ => none) ++ (match o.guard with | some (j, _) => ((ops[j]?).bind (·.dst)).toList | none => [])
def sharesB (ops : Array Oper) (a b : Oper) : Bool := (match a.dst with | some d => (opTmps ops b).contains d || b.dst == some d | none => false) || (match b.dst with | some d => (opTmps ops a).contains d | none => false)
def ancB (l : List Oper) (A : List Nat) : Bool := l.zipIdx.all fun (o, j) => o.after.all (fun e => !Region.binds .any e || decide (e.on < j)) && (List.range l.length).all fun i => !(A.getD j 0).testBit i || o.after.any fun e => Region.binds .any e && (e.on == i || (A.getD e.on 0).testBit i)
def commB (l : List Oper) (A : List Nat) : Bool := l.zipIdx.all fun (b, j) => (l.take j).zipIdx.all fun (a, i) => !sharesB l.toArray a b || (A.getD j 0).testBit i

section
variable {l : List Oper} {A : List Nat}
theorem ancB_edge (h : ancB l A = true) {j : Nat} {o : Oper} (ho : l[j]? = some o) {e : Edge} (he : e ∈ o.after) (hb : Region.binds .any e = true) : e.on < j := by
  unfold ancB at h
  have h1 := List.all_eq_true.1 h (o, j) (by rw [List.mem_zipIdx_iff_getElem?]; exact ho)
  simp only [Bool.and_eq_true] at h1
  have h2 := Array.all_eq_true_iff_forall_mem.1 h1.1 e he
  simpa [hb] using h2
theorem ancB_bit (h : ancB l A = true) {j i : Nat} {o : Oper} (ho : l[j]? = some o) (hi : i < l.length) (ht : (A.getD j 0).testBit i = true) : ∃ e ∈ o.after, Region.binds .any e = true ∧ (e.on = i ∨ (A.getD e.on 0).testBit i = true) := by
  unfold ancB at h
  have h1 := List.all_eq_true.1 h (o, j) (by rw [List.mem_zipIdx_iff_getElem?]; exact ho)
  simp only [Bool.and_eq_true] at h1
  have h2 := List.all_eq_true.1 h1.2 i (List.mem_range.2 hi)
  simp only [ht, Bool.not_true, Bool.false_or] at h2
  obtain ⟨q, hq, h3⟩ := Array.any_eq_true.1 h2
  simp only [Bool.and_eq_true, Bool.or_eq_true, beq_iff_eq] at h3
  exact ⟨_, Array.getElem_mem hq, h3.1, h3.2⟩
theorem anc_listed (h : ancB l A = true) {listed : Array Bool} (hc : Closed .any l.toArray listed) : ∀ (n j i : Nat), j < n → ∀ o, l[j]? = some o → i < l.length → (A.getD j 0).testBit i = true → (∀ e ∈ o.after, Region.binds .any e = true → listed.getD e.on false = true) → listed.getD i false = true
  | 0, _, _, h, _, _, _, _, _ => by omega
  | n + 1, j, i, hj, o, ho, hi, ht, hd => by
    obtain ⟨e, he, hb, hor⟩ := ancB_bit h ho hi ht
    have hl := hd e he hb
    rcases hor with rfl | hor
    · exact hl
    · have hlt := ancB_edge h ho he hb
      have hjl := (List.getElem?_eq_some_iff.1 ho).1
      have ho' : l[e.on]? = some (l[e.on]'(by omega)) := List.getElem?_eq_getElem _
      exact anc_listed h hc n e.on i (by omega) _ ho' hi hor (fun e' he' hb' => hc e.on _ (by simp) hl e' he' hb')
theorem commB_bit (h : commB l A = true) {i j : Nat} {a b : Oper} (ha : l[i]? = some a) (hb : l[j]? = some b) (hij : i < j) (hs : sharesB l.toArray a b = true) : (A.getD j 0).testBit i = true := by
  unfold commB at h
  have h1 := List.all_eq_true.1 h (b, j) (by rw [List.mem_zipIdx_iff_getElem?]; exact hb)
  have h2 := List.all_eq_true.1 h1 (a, i) (by rw [List.mem_zipIdx_iff_getElem?, List.getElem?_take, if_pos hij]; exact ha)
  simp only [hs, Bool.not_true, Bool.false_or] at h2
  exact h2

theorem comm_wp {its : List (Option Tmp × AV)} {fr0 : Fr} (hA : ancB l A = true) (hC : commB l A = true) (hlen : its.length = l.length) (hY : ∀ i o, l[i]? = some o → ∃ c, its[i]? = some (o.dst, c) ∧ OkD nt o.dst ∧ Yd P l.toArray o (frT its i fr0) m c)
    {Q : Exit → Act → World → Prop} : ∀ (fuel : Nat) (listed : Array Bool) (X : Mem) (w : World) (a : Act), Closed .any l.toArray listed → listed.size = l.length → (∃ U : List Nat, U.Nodup ∧ U.length = fuel ∧ ∀ i, i ∈ U ↔ (i < l.length ∧ listed.getD i false = false)) →
      FR X nt (frL (fun i => listed.getD i false) its 0 fr0) a → MR X W0 m w → (∀ a' w' X', X.Le W0.heap.size X' → FR X' nt (frT its l.length fr0) a' → MR X' W0 m w' → Q .normal a' w') → wpAny P .any l.toArray Q fuel listed a w := by
  have item : ∀ {i : Nat} {x : Option Tmp × AV}, its[i]? = some x → ∃ o, l[i]? = some o ∧ x.1 = o.dst := fun {i x} hx => by
    have hi : i < l.length := by rw [← hlen]; exact (List.getElem?_eq_some_iff.1 hx).1
    obtain ⟨c, h1, _⟩ := hY i l[i] (List.getElem?_eq_getElem hi)
    rw [hx] at h1
    injection h1 with h1
    exact ⟨l[i], List.getElem?_eq_getElem hi, by rw [h1]⟩
  have done : ∀ (listed : Array Bool) (X : Mem) (w : World) (a : Act), (∀ i, i < l.length → listed.getD i false = true) → FR X nt (frL (fun i => listed.getD i false) its 0 fr0) a → MR X W0 m w → (∀ a' w' X', X.Le W0.heap.size X' → FR X' nt (frT its l.length fr0) a' → MR X' W0 m w' → Q .normal a' w') → Q .normal a w := fun listed X w a hall F M hQ => by
    refine hQ a w X (Mem.Le.refl _ _) (F.weak fun t c hc => ?_) M
    rw [← frL_T its l.length 0 fr0] at hc
    rw [← hc]
    refine frL_agree (fun i x h1 h2 => ?_) rfl
    have hi : i < l.length := by rw [← hlen]; exact (List.getElem?_eq_some_iff.1 h1).1
    simp only [Nat.zero_add, hall i hi]
    simp [hi]
  intro fuel
  induction fuel with
  | zero =>
    intro listed X w a hcl hsz hU F M hQ
    obtain ⟨U, hU1, hU2, hU3⟩ := hU
    have hUn : U = [] := List.eq_nil_of_length_eq_zero hU2
    have hall : ∀ i, i < l.length → listed.getD i false = true := fun i hi => by
      cases h : listed.getD i false with
      | true => rfl
      | false =>
        have := (hU3 i).2 ⟨hi, h⟩
        rw [hUn] at this
        cases this
    refine ⟨?_, done listed X w a hall F M hQ⟩
    apply List.eq_nil_iff_forall_not_mem.2
    intro j hj
    obtain ⟨h1, o, h2, _⟩ := mem_ready.1 hj
    have hjl : j < l.length := by simpa using (Array.getElem?_eq_some_iff.1 h2).1
    have h3 := hall j hjl
    have hjs : j < listed.size := by omega
    rw [Array.getD_eq_getD_getElem?, Array.getElem?_eq_getElem hjs] at h1 h3
    simp at h1 h3
    rw [h1] at h3
    cases h3
  | succ fuel ih =>
    intro listed X w a hcl hsz hU F M hQ
    obtain ⟨U, hU1, hU2, hU3⟩ := hU
    refine ⟨fun hnone => ?_, fun j hj => ?_⟩
    · -- some operation is ready
      exfalso
      have hne : U ≠ [] := fun e => by rw [e] at hU2; cases hU2
      have hex : ∃ n, ∃ i, i < n ∧ i ∈ U := by
        obtain ⟨u, hu⟩ := List.exists_mem_of_ne_nil U hne
        exact ⟨u + 1, u, by omega, hu⟩
      have least : ∀ n, (∃ i, i < n ∧ i ∈ U) → ∃ i, i ∈ U ∧ ∀ k, k < i → k ∉ U := by
        intro n
        induction n with
        | zero => rintro ⟨i, hi, _⟩; omega
        | succ n ihn =>
          rintro ⟨i, hi, hiU⟩
          by_cases hlow : ∃ k, k < n ∧ k ∈ U
          · exact ihn hlow
          · exact ⟨i, hiU, fun k hk hkU => hlow ⟨k, by omega, hkU⟩⟩
      obtain ⟨n, hn⟩ := hex
      obtain ⟨i, hiU, hmin⟩ := least n hn
      obtain ⟨hil, hif⟩ := (hU3 i).1 hiU
      have hready : i ∈ Region.ready .any l.toArray listed := by
        rw [mem_ready]
        have his : i < listed.size := by omega
        refine ⟨?_, l[i], by simp [hil], fun e he hb => ?_⟩
        · rw [Array.getD_eq_getD_getElem?, Array.getElem?_eq_getElem his] at hif ⊢
          simpa using hif
        · have hlt := ancB_edge hA (List.getElem?_eq_getElem hil) he hb
          cases h : listed.getD e.on false with
          | true => rfl
          | false => exact absurd ((hU3 e.on).2 ⟨by omega, h⟩) (hmin e.on hlt)
      rw [hnone] at hready
      cases hready
    · obtain ⟨h1, o, h2, hdeps⟩ := mem_ready.1 hj
      have ho : l[j]? = some o := by simpa using h2
      have hjl : j < l.length := (List.getElem?_eq_some_iff.1 ho).1
      have hjs : j < listed.size := by omega
      have hjf : listed.getD j false = false := by
        rw [Array.getD_eq_getD_getElem?, Array.getElem?_eq_getElem hjs] at h1 ⊢
        simpa using h1
      obtain ⟨c, hit, hd, hy⟩ := hY j o ho
      -- earlier ones that share a slot are listed, later ones are not
      have before : ∀ i o', l[i]? = some o' → i < j → sharesB l.toArray o' o = true → listed.getD i false = true := fun i o' hi hlt hs =>
        anc_listed hA hcl (j + 1) j i (by omega) o ho (by omega) (commB_bit hC hi ho hlt hs) hdeps
      have behind : ∀ i o', l[i]? = some o' → j < i → sharesB l.toArray o o' = true → listed.getD i false = false := fun i o' hi hlt hs => by
        cases h : listed.getD i false with
        | false => rfl
        | true =>
          have := anc_listed hA hcl (i + 1) i j (by omega) o' hi hjl (commB_bit hC ho hi hlt hs) (fun e he hb => hcl i o' (by simpa using hi) h e he hb)
          rw [hjf] at this
          cases this
      have agree : ∀ t, (t ∈ opTmps l.toArray o) → find (frT its j fr0) t = find (frL (fun i => listed.getD i false) its 0 fr0) t := fun t ht => by
        rw [← frL_T its j 0 fr0]
        refine frL_agree (fun i x hx hxt => ?_) rfl
        obtain ⟨o', ho', hx'⟩ := item hx
        rw [hxt] at hx'
        simp only [Nat.zero_add]
        rcases Nat.lt_trichotomy i j with hij | hij | hij
        · rw [before i o' ho' hij (by unfold sharesB; rw [← hx']; simp [ht])]
          simp [hij]
        · subst hij
          rw [hjf]
          simp
        · rw [behind i o' ho' hij (by unfold sharesB; rw [← hx']; simp [ht])]
          simp; omega
      have hst := stepM_in (nt := nt) hy hd (fr' := frL (fun i => listed.getD i false) its 0 fr0)
        (fun x hx t hxt => agree t (by unfold opTmps; rw [List.mem_append]; left; rw [List.mem_filterMap]; exact ⟨x, hx, by rw [hxt]⟩))
        (fun j' b d hg hd' => agree d (by unfold opTmps; rw [List.mem_append]; right; rw [hg]; simp only; rw [hd']; simp))
      have hstep : ∀ K : Act → World → Prop, (∀ a' w' X', X.Le W0.heap.size X' → FR X' nt (putF (frL (fun i => listed.getD i false) its 0 fr0) o.dst c) a' → MR X' W0 m w' → K a' w') → wpOp P l.toArray Q j K a w := fun K hK => by
        rcases hst with hst | ⟨k, n, cs, m1, rfl, hkeep, hst⟩
        · refine stepW_wp h2 F M hst ?_
          rintro kd fr' m' a' w' X' ⟨rfl, rfl⟩ k1 k2 k3 _
          exact hK a' w' X' k1 k2 k3
        · refine stepW_wp h2 F M hst ?_
          rintro kd fr' m' a' w' X' ⟨rfl, rfl⟩ k1 k2 k3 _
          refine hK a' w' (X'.cut m.hp.length m.hw.length) ⟨k1.cell, k1.old, fun i β h => ?_, fun k T h => ?_, k1.room⟩ ⟨k2.size, k2.defers, fun t e he => ?_⟩ (k3.cut hkeep M.lowB)
          · have := M.ldom i β h
            simp only [Mem.cut]
            rw [if_pos this]
            exact k1.loc i β h
          · have := M.odom k T h
            simp only [Mem.cut]
            rw [if_pos this]
            exact k1.own k T h
          · rw [find_putF] at he
            split at he
            · rename_i hdt
              injection he with he
              subst he
              obtain ⟨x, q1, q2⟩ := k2.slot t _ (by rw [find_putF, if_pos hdt])
              exact ⟨x, q1, .c q2.ro⟩
            · rename_i hdt
              obtain ⟨x0, _, p2⟩ := F.slot t e he
              obtain ⟨x, q1, q2⟩ := k2.slot t e (by rw [find_putF, if_neg hdt]; exact he)
              exact ⟨x, q1, q2.cut (Rep.low (fun i β h => M.ldom i β h) (fun k T h => M.odom k T h) p2)⟩
      refine hstep _ fun a' w' X' k1 k2 k3 => ?_
      refine ih (listed.setIfInBounds j true) X' w' a' (hcl.set hj) (by simpa using hsz) ⟨U.erase j, hU1.erase j, ?_, fun i => ?_⟩ ?_ k3 (fun a2 w2 X2 l1 l2 l3 => hQ a2 w2 X2 (k1.trans l1) l2 l3)
      · rw [List.length_erase_of_mem ((hU3 j).2 ⟨hjl, hjf⟩), hU2]
        rfl
      · rw [hU1.mem_erase_iff, hU3 i]
        by_cases hij : i = j
        · subst hij
          simp [Array.getD_eq_getD_getElem?, hjs]
        · rw [Array.getD_eq_getD_getElem?, Array.getD_eq_getD_getElem?, Array.getElem?_setIfInBounds_ne (Ne.symm hij)]
          simp [hij]
      · refine k2.weak fun t c' hc' => ?_
        rw [← hc', find_putF]
        have hL : ∀ i, (listed.setIfInBounds j true).getD i false = if i = j then true else listed.getD i false := fun i => by
          by_cases hij : i = j
          · subst hij
            simp [Array.getD_eq_getD_getElem?, hjs]
          · rw [Array.getD_eq_getD_getElem?, Array.getElem?_setIfInBounds_ne (Ne.symm hij), if_neg hij, Array.getD_eq_getD_getElem?]
        by_cases hdt : o.dst = some t
        · rw [if_pos hdt]
          refine (frL_last (j := j) (by rw [hit, hdt]) (by rw [Nat.zero_add, hL, if_pos rfl]) (fun i x hx hxt hji => ?_)).symm
          obtain ⟨o', ho', hx'⟩ := item hx
          rw [hxt] at hx'
          rw [Nat.zero_add, hL, if_neg (by omega)]
          exact behind i o' ho' hji (by unfold sharesB; rw [hdt, ← hx']; simp)
        · rw [if_neg hdt]
          refine (frL_agree (fun i x hx hxt => ?_) rfl).symm
          rw [Nat.zero_add, hL, if_neg]
          rintro rfl
          rw [hit] at hx
          injection hx with hx
          subst hx
          exact hdt hxt
end

/-- A region that draws, where no operation changes abstract memory. -/
theorem tr_drawM {R : MRel} [hR : RelOk R] {fr : Fr} {Q : Ex → Fr → Mm → Prop} (hm : P.follows .mixedOrders = true) {id : Nat} {l : List Oper} (A : List Nat) (hB : (ancB l A && commB l A) = true) (h : SeqM P nt l.toArray l fr m (Q .nrm)) : Tr R P nt (.region id l.toArray true) fr m Q := fun X W0 w ac F M => by
  simp only [Bool.and_eq_true] at hB
  obtain ⟨its, h1, h2, h3⟩ := seqM_out h
  refine wp_region_any hm ?_
  have F0 : FR X nt (frL (fun i => (Array.replicate l.length false).getD i false) its 0 fr) ac := F.weak fun t c hc => by
    rw [← hc]
    have e : find (frL (fun i => (Array.replicate l.length false).getD i false) its 0 fr) t = find (frL (fun q => decide (q < 0 + 0)) its 0 fr) t := frL_agree (fun i x _ _ => by
      rw [Array.getD_eq_getD_getElem?, Array.getElem?_replicate]
      split <;> simp) rfl
    rw [e, frL_T]
    cases its <;> rfl
  have := comm_wp (P := P) (W0 := W0) (m := m) hB.1 hB.2 h1 h2 (Q := fun e a' w' => ∃ ex fr' m' X', e = Ex.out ex ∧ Q ex fr' m' ∧ R W0.heap.size X X' ∧ FR X' nt fr' a' ∧ MR X' W0 m' w') l.length (Array.replicate l.length false) X w.drew ac
    (fun j o _ hj => by rw [Array.getD_eq_getD_getElem?, Array.getElem?_replicate] at hj; split at hj <;> cases hj) (by simp)
    ⟨List.range l.length, List.nodup_range, by simp, fun i => by
      rw [List.mem_range]
      refine ⟨fun hi => ⟨hi, ?_⟩, fun h => h.1⟩
      rw [Array.getD_eq_getD_getElem?, Array.getElem?_replicate]
      split <;> rfl⟩ F0 M.drew (fun a' w' X' l1 l2 l3 => ⟨.nrm, _, _, X', rfl, h3, hR.of l1, l2, l3⟩)
  simpa using this
@[congr] theorem seqM_congr {ops : Array Oper} {l : List Oper} {fr fr' : Fr} {m m' : Mm} {Q : Fr → Mm → Prop} (h : fr = fr') (hm : m = m') : SeqM P nt ops l fr m Q = SeqM P nt ops l fr' m' Q := by rw [h, hm]
attribute [go_sem] SeqM isStore isApp appW_true appW_false appE_own
end Go.Vs.Ab
