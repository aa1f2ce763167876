/-
  Rules for code on abstract values. No program in sight.
-/
import Derived.Test.YtinbfakpjnnagaaDoorDNAk
set_option linter.unusedVariables false
set_option linter.unusedSimpArgs false
set_option linter.unusedSectionVars false
namespace Go.Vs.Ab
open Go.RowKit
variable {P : Program} {X : Mem} {W0 w w' : World} {m : Mm} {nt : Nat} {fr : Fr} {Q : Ex → Fr → Mm → Prop}
def Mem.cut (X : Mem) (i j : Nat) : Mem := ⟨X.cell, fun b => if b < i then X.loc b else none, fun k => if k < j then X.own k else none, X.room⟩
abbrev MRel := Nat → Mem → Mem → Prop
def fle : MRel := fun b X Y => X.Le b Y
structure cle (base : Nat) (X Y : Mem) : Prop where
  cell : ∀ b o x, b < base → X.cell b o = some x → Y.cell b o = some x
  old : ∀ b o x, b < base → Y.cell b o = some x → X.cell b o = some x
  loc : ∀ i β, X.loc i = some β → Y.loc i = some β
  room : ∀ β, X.room β ≤ Y.room β
class RelOk (R : MRel) : Prop where
  of : ∀ {b : Nat} {X Y : Mem}, X.Le b Y → R b X Y
  trans : ∀ {b : Nat} {X Y Z : Mem}, R b X Y → R b Y Z → R b X Z
  cut : ∀ {b : Nat} {X Y : Mem} {i j : Nat}, R b X Y → (∀ k β, X.loc k = some β → k < i) → (∀ k T, X.own k = some T → k < j) → R b X (Y.cut i j)
instance : RelOk fle where
  of h := h
  trans h k := Mem.Le.trans h k
  cut h h1 h2 := ⟨h.cell, h.old, fun i β hi => by simp only [Mem.cut]; rw [if_pos (h1 i β hi)]; exact h.loc i β hi, fun k T hk => by simp only [Mem.cut]; rw [if_pos (h2 k T hk)]; exact h.own k T hk, h.room⟩
instance : RelOk cle where
  of h := ⟨fun b o x _ hx => h.cell b o x hx, h.old, h.loc, h.room⟩
  trans h k := ⟨fun b o x hb hx => k.cell b o x hb (h.cell b o x hb hx), fun b o x hb hx => h.old b o x hb (k.old b o x hb hx), fun i β hi => k.loc i β (h.loc i β hi), fun β => Nat.le_trans (h.room β) (k.room β)⟩
  cut h h1 h2 := ⟨h.cell, h.old, fun i β hi => by simp only [Mem.cut]; rw [if_pos (h1 i β hi)]; exact h.loc i β hi, h.room⟩
theorem cle.le {X Y : Mem} {m : Mm} {W0 w : World} (M : MR X W0 m w) (h : cle w.heap.size X.bare Y) : X.bare.Le w.heap.size Y :=
  ⟨fun b o x hx => h.cell b o x (M.cellBlock hx) hx, h.old, h.loc, fun k T hk => (by cases hk), h.room⟩
variable {R : MRel} [hR : RelOk R]
def Tr (R : MRel) (P : Program) (nt : Nat) (c : Code) (fr : Fr) (m : Mm) (Q : Ex → Fr → Mm → Prop) : Prop := ∀ X W0 w a, FR X nt fr a → MR X W0 m w →
  c.wp P (fun e a' w' => ∃ ex fr' m' X', e = Ex.out ex ∧ Q ex fr' m' ∧ R W0.heap.size X X' ∧ FR X' nt fr' a' ∧ MR X' W0 m' w') a w
def Ex.seq (K : Fr → Mm → Prop) (Q : Ex → Fr → Mm → Prop) : Ex → Fr → Mm → Prop
  | .nrm, fr, m => K fr m
  | e, fr, m => Q e fr m
def Ex.block (id : Nat) (Q : Ex → Fr → Mm → Prop) : Ex → Fr → Mm → Prop
  | .exit j, fr, m => if j = id then Q .nrm fr m else Q (.exit j) fr m
  | e, fr, m => Q e fr m
theorem tr_skip (h : Q .nrm fr m) : Tr R P nt .skip fr m Q := fun X _ w a F M => wp_skip ⟨.nrm, fr, m, X, rfl, h, hR.of (Mem.Le.refl _ _), F, M⟩
theorem tr_exit {id : Nat} (h : Q (.exit id) fr m) : Tr R P nt (.exit id) fr m Q := fun X _ w a F M => wp_exit ⟨.exit id, fr, m, X, rfl, h, hR.of (Mem.Le.refl _ _), F, M⟩
theorem tr_ret (h : Q .ret fr m) : Tr R P nt .ret fr m Q := fun X _ w a F M => wp_ret ⟨.ret, fr, m, X, rfl, h, hR.of (Mem.Le.refl _ _), F, M⟩
theorem tr_seq {a b : Code} (h : Tr R P nt a fr m (Ex.seq (fun fr m => Tr R P nt b fr m Q) Q)) : Tr R P nt (.seq a b) fr m Q := fun X W0 w ac F M => by
  refine wp_seq (wp_mono (h X W0 w ac F M) ?_)
  rintro _ a' w' ⟨ex, fr', m', X', rfl, hq, k1, k2, k3⟩
  cases ex with
  | nrm =>
    refine wp_mono (hq X' W0 w' a' k2 k3) ?_
    rintro _ a2 w2 ⟨ex, fr2, m2, X2, rfl, hq, l1, l2, l3⟩
    exact ⟨ex, fr2, m2, X2, rfl, hq, hR.trans k1 l1, l2, l3⟩
  | exit id => exact ⟨.exit id, fr', m', X', rfl, hq, k1, k2, k3⟩
  | ret => exact ⟨.ret, fr', m', X', rfl, hq, k1, k2, k3⟩
theorem tr_cond {c : Operand} {a b : Code} {t : Bool} (hc : opd fr c = some (.c (.v (.bool t)))) (h1 : t = true → Tr R P nt a fr m Q) (h2 : t = false → Tr R P nt b fr m Q) : Tr R P nt (.cond c a b) fr m Q := fun X W0 w ac F M => by
  have hx := val_rep rfl (opd_rep F hc)
  exact wp_cond_split hx (fun h => h1 h X W0 w ac F M) (fun h => h2 h X W0 w ac F M)
theorem tr_block {id : Nat} {c : Code} (h : Tr R P nt c fr m (Ex.block id Q)) : Tr R P nt (.block id c) fr m Q := fun X W0 w ac F M => by
  refine wp_block (wp_mono (h X W0 w ac F M) ?_)
  rintro _ a' w' ⟨ex, fr', m', X', rfl, hq, k⟩
  cases ex with
  | nrm => exact ⟨.nrm, fr', m', X', rfl, hq, k⟩
  | exit j =>
    show if j = id then _ else _
    simp only [Ex.block] at hq
    split at hq
    · rename_i e; rw [if_pos e]; exact ⟨.nrm, fr', m', X', rfl, hq, k⟩
    · rename_i e; rw [if_neg e]; exact ⟨.exit j, fr', m', X', rfl, hq, k⟩
  | ret => exact ⟨.ret, fr', m', X', rfl, hq, k⟩
theorem tr_region {id : Nat} {l : List Oper} (h : SeqW P nt l.toArray l fr m (Q .nrm)) : Tr R P nt (.region id l.toArray false) fr m Q := fun X W0 w ac F M =>
  seqW_region F M h fun fr' m' a' w' X' k0 k1 k2 k3 => ⟨.nrm, fr', m', X', rfl, k0, hR.of k1, k2, k3⟩
theorem tr_draw (hm : P.follows .mixedOrders = true) {id : Nat} {l : List Oper} (fin : Nat) (loud ord : List Nat) (hB : ordB l fin loud ord = true) (h : OrdW P nt l.toArray loud fin ord fr m (Q .nrm)) : Tr R P nt (.region id l.toArray true) fr m Q := fun X W0 w ac F M =>
  ordW_region hm hB F M h fun fr' m' a' w' X' k0 k1 k2 k3 => ⟨.nrm, fr', m', X', rfl, k0, hR.of k1, k2, k3⟩
theorem tr_drawC (hm : P.follows .mixedOrders = true) {id : Nat} {l : List Oper} (fin : Nat) (hB : ordB l fin [] (List.range l.length) = true) (h : SeqC P nt l.toArray l fr m (Q .nrm)) : Tr R P nt (.region id l.toArray true) fr m Q :=
  tr_draw hm fin [] (List.range l.length) hB (by rw [List.range_eq_range']; exact ordW_of_seqC l 0 (by simp) h)
def SubF : Fr → Fr → Prop
  | [], _ => True
  | (t, c) :: r, fr => find fr t = some c ∧ SubF r fr
theorem SubF.spec : ∀ {A B : Fr}, SubF A B → ∀ t c, find A t = some c → find B t = some c
  | [], _, _, t, c, h => by cases h
  | (s, d) :: r, B, hs, t, c, h => by
    simp only [find] at h
    split at h
    · rename_i e
      have := Nat.eq_of_beq_eq_true e
      subst this
      injection h with h
      subst h
      exact hs.1
    · exact SubF.spec hs.2 t c h
theorem tr_sub {c : Code} {fr' : Fr} (hs : SubF fr' fr) (h : Tr R P nt c fr' m Q) : Tr R P nt c fr m Q := fun X W0 w ac F M => h X W0 w ac (F.weak hs.spec) M
/-! ### forgetting blocks and rooms -/
mutual
def low (i j : Nat) : AV → Bool
  | .own k _ _ => Nat.blt k j
  | .ptr b _ => Nat.blt b i
  | .tup vs => lows i j vs
  | .fn _ a b => lows i j a && lows i j b
  | .c _ => true
  | .agg _ => true
  | .cptr _ => true
  | .lsl b _ _ _ => Nat.blt b i
  | .mapp b => Nat.blt b i
  | .ifc _ v => low i j v
  | .strc vs => lows i j vs
  | .ent _ => true
  | .bld _ _ c => low i j c
  | .byt _ _ => true
  | .dead => true
def lows (i j : Nat) : List AV → Bool
  | [] => true
  | c :: r => low i j c && lows i j r
end
theorem lows_get {i j : Nat} : ∀ {cs : List AV}, lows i j cs = true → ∀ (k : Nat) (c : AV), cs[k]? = some c → low i j c = true
  | [], _, k, c, h => by simp at h
  | x :: r, h, k, c, hc => by
    simp only [lows, Bool.and_eq_true] at h
    cases k with
    | zero => simp at hc; subst hc; exact h.1
    | succ k => exact lows_get h.2 k c (by simpa using hc)
theorem Rep.cut {i j : Nat} {c : AV} {x : Value} (h : Rep X c x) (hl : low i j c = true) : Rep (X.cut i j) c x := by
  induction h with
  | c h => exact .c h
  | agg h => exact .agg h
  | tup hl' _ ih => exact .tup hl' fun k c x h1 h2 => ih k c x h1 h2 (lows_get (by simpa [low] using hl) k c h1)
  | own h hn hc hx ht =>
    refine .own h hn hc hx ?_
    obtain ⟨T, h1, h2⟩ := ht
    simp only [low, Nat.blt_eq] at hl
    exact ⟨T, by simp only [Mem.cut]; rw [if_pos hl]; exact h1, h2⟩
  | ptr h =>
    simp only [low, Nat.blt_eq] at hl
    exact .ptr (by simp only [Mem.cut]; rw [if_pos hl]; exact h)
  | cptr h hx => exact .cptr h hx
  | fn h1 _ h3 _ ih1 ih2 =>
    simp only [low, Bool.and_eq_true] at hl
    exact .fn h1 (fun k c x h4 h5 => ih1 k c x h4 h5 (lows_get hl.1 k c h4)) h3 (fun k c x h4 h5 => ih2 k c x h4 h5 (lows_get hl.2 k c h4))
  | lsl h ho hn hc hr =>
    simp only [low, Nat.blt_eq] at hl
    exact .lsl (by simp only [Mem.cut]; rw [if_pos hl]; exact h) ho hn hc hr
  | mapp h =>
    simp only [low, Nat.blt_eq] at hl
    exact .mapp (by simp only [Mem.cut]; rw [if_pos hl]; exact h)
  | ifc _ ih => exact .ifc (ih (by simpa [low] using hl))
  | strc hl' _ h1 ih => exact .strc hl' (fun k c x g1 g2 => ih k c x g1 g2 (lows_get (by simpa [low] using hl) k c g1)) h1
theorem Reps.cut {i j : Nat} {cs : List AV} {xs : List Value} (h : Reps X cs xs) (hl : lows i j cs = true) : Reps (X.cut i j) cs xs := ⟨h.1, fun k c x h1 h2 => (h.2 k c x h1 h2).cut (lows_get hl k c h1)⟩
def lowF (i j : Nat) : Fr → Bool
  | [] => true
  | (_, c) :: r => low i j c && lowF i j r
theorem lowF_find {i j : Nat} : ∀ {fr : Fr}, lowF i j fr = true → ∀ t c, find fr t = some c → low i j c = true
  | [], _, t, c, h => by cases h
  | (s, d) :: r, h, t, c, hc => by
    simp only [lowF, Bool.and_eq_true] at h
    simp only [find] at hc
    split at hc
    · injection hc with hc; subst hc; exact h.1
    · exact lowF_find h.2 t c hc
def lowB (i j : Nat) : List Blk → Bool
  | [] => true
  | b :: r => lows i j b.cs && lowB i j r
theorem lowB_get {i j : Nat} : ∀ {bs : List Blk}, lowB i j bs = true → ∀ (k : Nat) (b : Blk), bs[k]? = some b → lows i j b.cs = true
  | [], _, k, c, h => by simp at h
  | x :: r, h, k, c, hc => by
    simp only [lowB, Bool.and_eq_true] at h
    cases k with
    | zero => simp at hc; subst hc; exact h.1
    | succ k => exact lowB_get h.2 k c (by simpa using hc)
def Keep (A B : Mm) : Prop := (∃ eh, B.hp = A.hp ++ eh) ∧ ∃ ew, B.hw = A.hw ++ ew
theorem Keep.refl (A : Mm) : Keep A A := ⟨⟨[], by simp⟩, ⟨[], by simp⟩⟩
theorem Keep.of {A : Mm} {hp eh : List Blk} {hw ew : List Hw} (h1 : hp = A.hp ++ eh) (h2 : hw = A.hw ++ ew) : Keep A ⟨hp, hw⟩ := ⟨⟨eh, h1⟩, ⟨ew, h2⟩⟩
theorem FR.cut {i j : Nat} {a : Act} (F : FR X nt fr a) (hl : lowF i j fr = true) : FR (X.cut i j) nt fr a :=
  ⟨F.size, F.defers, fun t c hc => by obtain ⟨x, h1, h2⟩ := F.slot t c hc; exact ⟨x, h1, h2.cut (lowF_find hl t c hc)⟩⟩
theorem BlkIs.cut {i j β : Nat} {blk : Blk} (h : BlkIs X w β blk) (hl : lows i j blk.cs = true) : BlkIs (X.cut i j) w β blk := by
  cases h with
  | dead h => exact .dead h
  | ent h1 h2 h3 h4 h5 => exact .ent h1 h2 h3 h4 h5
  | bld h1 h2 h3 h4 h5 => exact .bld h1 h2 (h3.cut (by rw [h1] at hl; simpa [lows, low] using hl)) h4 h5
  | byt h1 h2 h3 h4 h5 h6 => exact .byt h1 h2 h3 h4 h5 h6
  | cells h1 h2 h3 h4 h5 => exact .cells h1 h2 (h3.cut hl) h4 h5
theorem MR.cut {A B : Mm} (M : MR X W0 B w) (hk : Keep A B) (hl : lowB A.hp.length A.hw.length A.hp = true) : MR (X.cut A.hp.length A.hw.length) W0 A w := by
  obtain ⟨⟨eh, h1⟩, ⟨ew, h2⟩⟩ := hk
  have hL : ∀ b β, (X.cut A.hp.length A.hw.length).loc b = some β → b < A.hp.length ∧ X.loc b = some β := fun b β h => by
    simp only [Mem.cut] at h
    split at h
    · rename_i e; exact ⟨e, h⟩
    · cases h
  have hO : ∀ b β, (X.cut A.hp.length A.hw.length).own b = some β → b < A.hw.length ∧ X.own b = some β := fun b β h => by
    simp only [Mem.cut] at h
    split at h
    · rename_i e; exact ⟨e, h⟩
    · cases h
  refine ⟨M.below, M.cell, fun i β h => (hL i β h).1, fun i blk h => ?_, fun i k β bi bj g1 g2 q1 q2 => M.inj i k β bi bj (hL i β g1).2 (hL k β g2).2 (by rw [h1, List.getElem?_append_left (List.getElem?_eq_some_iff.1 q1).1]; exact q1) (by rw [h1, List.getElem?_append_left (List.getElem?_eq_some_iff.1 q2).1]; exact q2), fun k T h => (hO k T h).1, fun k n h => ?_, fun i k S T g1 g2 he => M.oinj i k S T (hO i S g1).2 (hO k T g2).2 he, M.gl, M.rm⟩
  · have hi := (List.getElem?_eq_some_iff.1 h).1
    obtain ⟨β, g1, g2, g3, hB⟩ := M.locs i blk (by rw [h1, List.getElem?_append_left hi]; exact h)
    exact ⟨β, by simp only [Mem.cut]; rw [if_pos hi]; exact g1, g2, g3, hB.cut (lowB_get hl i blk h)⟩
  · have hk := (List.getElem?_eq_some_iff.1 h).1
    obtain ⟨T, g1, g2, g3, g4, g5, g6, g7, g8, g9⟩ := M.toks k n (by rw [h2, List.getElem?_append_left hk]; exact h)
    exact ⟨T, by simp only [Mem.cut]; rw [if_pos hk]; exact g1, g2, g3, g4, g5, g6, g7, g8, fun i hi => g9 i (hL i _ hi).2⟩
structure Back (A0 : Mm) (frA : Fr) (A : Mm) (fr : Fr) (m : Mm) : Prop where
  sub : SubF frA fr
  keep : Keep A m
  lowf : lowF A.hp.length A.hw.length frA = true
  lowb : lowB A.hp.length A.hw.length A.hp = true
  hp : A0.hp.length ≤ A.hp.length
  hw : A0.hw.length ≤ A.hw.length
theorem Back.step {A0 A : Mm} {frA : Fr} {a : Act} {X0 : Mem} {w0 : World} (B : Back A0 frA A fr m) (M0 : MR X0 W0 A0 w0) (hX : R W0.heap.size X0 X) (F : FR X nt fr a) (M : MR X W0 m w) :
    ∃ X', R W0.heap.size X0 X' ∧ FR X' nt frA a ∧ MR X' W0 A w := by
  refine ⟨X.cut A.hp.length A.hw.length, hR.cut hX (fun i β h => ?_) (fun k T h => ?_), (F.weak B.sub.spec).cut B.lowf, M.cut B.keep B.lowb⟩
  · have := M0.ldom i β h
    have := B.hp
    omega
  · have := M0.odom k T h
    have := B.hw
    omega
theorem tr_loop {c : Code} {σ : Type} (frs : σ → Fr) (ms : σ → Mm) (I : σ → Prop) (μ : σ → Nat) (s0 : σ) (hI : I s0) (h0 : SubF (frs s0) fr) (hm : m = ms s0)
    (round : ∀ s, I s → Tr R P nt c (frs s) (ms s) (Ex.seq (fun fr' m' => ∃ s', I s' ∧ Back (ms s0) (frs s') (ms s') fr' m' ∧ μ s' < μ s) Q)) : Tr R P nt (.loop c) fr m Q := fun X W0 w ac F M => by
  subst hm
  have key : ∀ (n : Nat) (s : σ) (X1 : Mem) (w1 : World) (a1 : Act), μ s < n → I s → R W0.heap.size X X1 → FR X1 nt (frs s) a1 → MR X1 W0 (ms s) w1 →
      Code.rounds P c (fun e a' w' => ∃ ex fr' m' X', e = Ex.out ex ∧ Q ex fr' m' ∧ R W0.heap.size X X' ∧ FR X' nt fr' a' ∧ MR X' W0 m' w') n a1 w1 := by
    intro n
    induction n with
    | zero => intro s X1 w1 a1 h; omega
    | succ n ih =>
      intro s X1 w1 a1 hlt hs hX F1 M1
      rw [rounds_succ]
      refine wp_mono (round s hs X1 W0 w1 a1 F1 M1) ?_
      rintro _ a' w' ⟨ex, fr', m', X', rfl, hq, k1, k2, k3⟩
      cases ex with
      | nrm =>
        obtain ⟨s', hs', hB, hmu⟩ := hq
        obtain ⟨X2, l1, l2, l3⟩ := hB.step M (hR.trans hX k1) k2 k3
        exact ih s' X2 w' a' (by omega) hs' l1 l2 l3
      | exit id => exact ⟨.exit id, fr', m', X', rfl, hq, hR.trans hX k1, k2, k3⟩
      | ret => exact ⟨.ret, fr', m', X', rfl, hq, hR.trans hX k1, k2, k3⟩
  exact wp_loop_rounds _ (key (μ s0 + 1) s0 X w ac (Nat.lt_succ_self _) hI (hR.of (Mem.Le.refl _ _)) (F.weak h0.spec) M)
theorem does_of {F : FuncId} {fn : Func} {c : Code} (hF : P.funcs[F]? = some fn) (hb : fn.body = some c) (hcb : callableB fn = true) {args : List AV} {f : Mm → AV × Mm} (hs : shuts args = some args) (hle : args.length ≤ fn.ntmps)
    (h : Tr cle P fn.ntmps c (initFr 0 args) ⟨[], []⟩ (fun e fr m1 => (∀ id, e ≠ .exit id) ∧ ∃ cs, resAll P fr m1 fn.results.toList = some cs ∧ ∀ m, retV m1 m (resV cs) = some (f m))) : Does P F args f := by
  refine ⟨callable_of hF hcb, fun X W0 m w vs M hargs => ?_⟩
  have hargs' := shuts_rep (X := X) (Y := X.bare) rfl hs hargs
  refine (calls_of_wp hF hb (R := fun e w' => ∃ v X', e = .returned v ∧ X.Le W0.heap.size X' ∧ Rep X' (f m).1 v ∧ MR X' W0 (f m).2 w' ∧ ∀ i β, X.loc i = some β → w'.heap[β]? = w.heap[β]?) (wp_mono (h X.bare w w _ (FR.init hargs' hle) (bare_MR M)) ?_))
  rintro _ a' w' ⟨ex, fr', m1, X1, rfl, ⟨hne, cs, h1, h2⟩, k1, k2, k3⟩
  obtain ⟨vs', g1, g2⟩ := resAll_ok k2 k3 h1
  obtain ⟨X', l1, l2, l3, l4⟩ := retV_ok M (cle.le M k1) k3 (h2 m) (resV_ok g1)
  have : a'.defers = [] ∧ ∃ v, (results fn a'.tmps).run P w' = .ok v w' ∧ ∃ v2 X', Ending.returned v = .returned v2 ∧ X.Le W0.heap.size X' ∧ Rep X' (f m).1 v2 ∧ MR X' W0 (f m).2 w' ∧ ∀ i β, X.loc i = some β → w'.heap[β]? = w.heap[β]? :=
    ⟨k2.defers, _, results_run g2, _, X', rfl, l1, l3, l4, fun i β hi => k3.below.block β (M.locBlock hi).1⟩
  cases ex with
  | nrm => exact this
  | ret => exact this
  | exit id => exact absurd rfl (hne id)
theorem Does.calls {F : FuncId} {args : List AV} {f : Mm → AV × Mm} (h : Does P F args f) {C : Nat → Nat → Option Value} (hC : ∀ b o x, C b o = some x → w.cell? ⟨b, o, none⟩ = some x) {vs : Array Value} (hargs : Reps ⟨C, fun _ => none, fun _ => none, fun _ => 0⟩ args vs.toList) {v : Value} (hv : (f ⟨[], []⟩).1.val = some v) (hg : Gl w := by intro p hp; simp [tabs] at hp) :
    Calls P F vs w fun e w' => e = .returned v ∧ Below w.heap.size w w' := by
  have M : MR (⟨C, fun _ => none, fun _ => none, fun _ => 0⟩ : Mem) w ⟨[], []⟩ w :=
    ⟨Below.refl _ w, hC, (fun _ _ h => by cases h), (fun _ _ h => by simp at h), (fun _ _ _ _ _ h => by cases h), (fun _ _ h => by cases h), (fun _ _ h => by simp at h), (fun _ _ _ _ h => by cases h), hg, (fun _ h => absurd h (Nat.lt_irrefl 0))⟩
  refine (h.2 _ w _ w vs M hargs).mono ?_
  rintro _ w' ⟨u, X', rfl, _, k2, k3, _⟩
  exact ⟨by rw [val_rep hv k2], k3.below⟩
end Go.Vs.Ab
