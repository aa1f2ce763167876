/-
  An operation on abstract values that changes nothing: as the program's operation. No program in sight.
-/
import Derived.Test.YtinbfakpjnnagaaDoorDNBa
namespace Go.Vs.Ab
open Go.RowKit
def av1 : Option Value → Option AV
  | some v => avOf1 v
  | none => none
def optV (fr : List (Nat × AV)) : Option Operand → Option (Option Value)
  | none => some none
  | some x => (opdV fr x).map some
theorem optV_eq {X : Mem} {nt : Nat} {fr : List (Nat × AV)} {a : Act} (F : FR X nt fr a) {o : Option Operand} {v : Option Value} (h : optV fr o = some v) : o.map a.eval = v := by
  cases o with
  | none => simp [optV] at h; subst h; rfl
  | some x =>
    simp only [optV, Option.map_eq_some_iff] at h
    obtain ⟨y, h1, rfl⟩ := h
    simp [opdV_eq F h1]
def oprs (fr : List (Nat × AV)) : List Operand → Option (List AV)
  | [] => some []
  | x :: r => match opd fr x, oprs fr r with
    | some c, some cs => some (c :: cs)
    | _, _ => none
theorem oprs_rep {X : Mem} {nt : Nat} {fr : List (Nat × AV)} {a : Act} (F : FR X nt fr a) : ∀ {xs : List Operand} {cs : List AV}, oprs fr xs = some cs → Reps X cs (xs.map a.eval)
  | [], cs, h => by
    simp [oprs] at h
    subst h
    exact ⟨rfl, fun i c x h => by cases h⟩
  | x :: r, cs, h => by
    unfold oprs at h
    split at h
    · rename_i c ds h1 h2
      injection h with h
      subst h
      have ih := oprs_rep F h2
      refine ⟨by simp [ih.1], fun i e y h3 h4 => ?_⟩
      cases i with
      | zero => simp at h3 h4; subst h3 h4; exact opd_rep F h1
      | succ i => exact ih.2 i e y (by simpa using h3) (by simpa using h4)
    · cases h
def oprsV (fr : List (Nat × AV)) : List Operand → Option (List Value)
  | [] => some []
  | x :: r => match opdV fr x, oprsV fr r with
    | some c, some cs => some (c :: cs)
    | _, _ => none
theorem oprsV_eq {X : Mem} {nt : Nat} {fr : List (Nat × AV)} {a : Act} (F : FR X nt fr a) : ∀ {xs : List Operand} {vs : List Value}, oprsV fr xs = some vs → xs.map a.eval = vs
  | [], vs, h => by simp [oprsV] at h; subst h; rfl
  | x :: r, vs, h => by
    unfold oprsV at h
    split at h
    · rename_i c ds h1 h2
      injection h with h
      subst h
      rw [List.map_cons, opdV_eq F h1, oprsV_eq F h2]
    · cases h
def oprps (fr : List (Nat × AV)) : List (Nat × Operand) → Option (List (Nat × AV))
  | [] => some []
  | (i, x) :: r => match opd fr x, oprps fr r with
    | some c, some cs => some ((i, c) :: cs)
    | _, _ => none
theorem oprps_rep {X : Mem} {nt : Nat} {fr : List (Nat × AV)} {a : Act} (F : FR X nt fr a) : ∀ {xs : List (Nat × Operand)} {cs : List (Nat × AV)}, oprps fr xs = some cs → Pairs X cs (xs.map fun (i, x) => (i, a.eval x))
  | [], cs, h => by
    simp [oprps] at h
    subst h
    exact ⟨rfl, fun i c x h => by cases h⟩
  | (k, x) :: r, cs, h => by
    unfold oprps at h
    split at h
    · rename_i c ds h1 h2
      injection h with h
      subst h
      have ih := oprps_rep F h2
      refine ⟨by simp [ih.1], fun i e y h3 h4 => ?_⟩
      cases i with
      | zero => simp at h3 h4; subst h3 h4; exact ⟨rfl, opd_rep F h1⟩
      | succ i => exact ih.2 i e y (by simpa using h3) (by simpa using h4)
    · cases h
def sliceD : Option TypeDesc → Bool
  | some (.slice _) => true
  | _ => false
def mapD : Option TypeDesc → Bool
  | some (.map _ _) => true
  | _ => false
def calmB (P : Program) (fr : List (Nat × AV)) (m : Mm) (ty : TypeId) (b : Builtin) (args : List Operand) (argTypes : Array TypeId) : Option AV :=
  match b with
  | .len => match args, argTypes[0]? with
    | [x], some t => if sliceD (P.underlying t) then
        match opd fr x with
        | some c => match slV c with
          | some (n, _) => some (.c (.v (.int .i64 n)))
          | none => match lsV c with
            | some (_, _, n, _) => some (.c (.v (.int .i64 n)))
            | none => none
        | none => none
      else if mapD (P.underlying t) then
        match opd fr x with
        | some c => aMapLen m c
        | none => none
      else
        match opdV fr x with
        | some v => av1 (pureVal P (Builtin.len_ argTypes ty #[v]))
        | none => none
    | _, _ => none
  | .min => match oprsV fr args with
    | some vs => av1 (pureVal P (Builtin.min_ argTypes ty vs.toArray))
    | none => none
  | .max => match oprsV fr args with
    | some vs => av1 (pureVal P (Builtin.max_ argTypes ty vs.toArray))
    | none => none
  | _ => none
def ptrD : Option TypeDesc → Bool
  | some (.pointer _) => true
  | _ => false
def funcD : Option TypeDesc → Bool
  | some (.func _ _ _) => true
  | _ => false
def ifaceD : Option TypeDesc → Bool
  | some (.interface _) => true
  | _ => false
def isEq : BinOp → Option Bool
  | .eql => some true
  | .neq => some false
  | _ => none
def aNil (P : Program) (op : BinOp) (t : TypeId) (x : Option AV) (y : Value) : Option AV :=
  match x, y, isEq op with
  | some (.ptr _ _), .pointer none, some b => if ptrD (P.underlying t) then some (.c (.v (.bool !b))) else none
  | some (.fn _ _ _), .nilFunc, some b => if funcD (P.underlying t) then some (.c (.v (.bool !b))) else none
  | _, _, _ => none
def aAssert (P : Program) (t : TypeId) (ok : Bool) : AV → Option AV
  | .ifc u c => if Nat.beq u t && !ifaceD (P.underlying t) && (P.underlying t).isSome then some (if ok then .tup [c, .c (.v (.bool true))] else c) else none
  | _ => none
def calm (P : Program) (fr : List (Nat × AV)) (m : Mm) (o : Oper) : Option AV :=
  match o.op with
  | .move x => opd fr x
  | .assign x => opd fr x
  | .pick c a b => match opd fr c with
    | some (.c (.v (.bool t))) => match t with
      | true => opd fr a
      | false => opd fr b
    | _ => none
  | .binOp op t x y _ => match opdV fr x, opdV fr y with
    | some a, some b => av1 (pureVal P (do eqGuard op t x y a b; binOp op t a b))
    | none, some b => aNil P op t (opd fr x) b
    | _, none => none
  | .unOp op _ x => match opdV fr x with
    | some a => av1 (pureVal P (Op.unary op a))
    | none => none
  | .convert s d x => match opdV fr x with
    | some a => av1 (pureVal P (convert s d a))
    | none => none
  | .load t x => match opd fr x with
    | some p => aLoad P m t p
    | none => none
  | .fieldAddr s x f => match opd fr x with
    | some p => aFieldAddr P s f p
    | none => none
  | .field t x f => match opd fr x with
    | some p => aField P t f p
    | none => none
  | .indexAddr t x ix => match opd fr x, opd fr ix with
    | some p, some i => match lsV p with
      | some _ => aIndexL P t p i
      | none => aIndexAddr P t p i
    | _, _ => none
  | .lookup t x k ok => match opd fr x, opdV fr k with
    | some p, some v => aLookup P m t p v ok
    | _, _ => none
  | .index t x ix => match opd fr x, opd fr ix with
    | some p, some i => match p with
      | .agg _ => aIndex P t p i
      | _ => match p.val, i.val with
        | some a, some b => av1 (pureVal P (Instr.index t a b))
        | _, _ => none
    | _, _ => none
  | .slice t x lo hi mx => match opd fr x with
    | some p => match p.val with
      | some v => match optV fr lo, optV fr hi, optV fr mx with
        | some l, some h, some m => av1 (pureVal P (Instr.sliceAt t v l h m))
        | _, _, _ => none
      | none => match bnd fr lo, bnd fr hi, bnd fr mx with
        | some l, some h, some m => match lsV p with
          | some _ => aSliceL P t p l h m
          | none => aSlice P t p l h m
        | _, _, _ => none
    | none => none
  | .extract x i => match opd fr x with
    | some p => aExtract i p
    | none => none
  | .build t ps => match oprps fr ps.toList with
    | some cs => orBuild (aBuild P t cs) (aBuildV P t cs)
    | none => none
  | .makeFunc f first captured => match oprs fr first.toList, oprs fr captured.toList with
    | some as, some bs => some (.fn f as bs)
    | _, _ => none
  | .nilCheck x => match opd fr x with
    | some (.ptr b off) => some (.ptr b off)
    | some (.cptr cs) => some (.cptr cs)
    | some (.fn (.func f) as bs) => some (.fn (.func f) as bs)
    | _ => none
  | .makeInterface t x => match opd fr x with
    | some c => if !ifaceD (P.underlying t) && (P.underlying t).isSome then some (.ifc t c) else none
    | none => none
  | .typeAssert x _ t ok => match opd fr x with
    | some c => aAssert P t ok c
    | none => none
  | .call c => match c.callee with
    | .builtin b => calmB P fr m o.type b c.args.toList c.argTypes
    | _ => none
  | _ => none
theorem run_eqN {P : Program} {op : BinOp} {t : TypeId} {x y : Value} {b : Bool} (hop : isEq op = some b) (hx : ∀ j i, x ≠ .int j i) (h2 : ∀ j i, x ≠ .float j i) (h3 : ∀ j i k, x ≠ .complex j i k) (h4 : ∀ s, x ≠ .string s) (w : World) (he : (Op.equal t x y).run P w = .ok false w) : (binOp op t x y).run P w = .ok (.bool !b) w := by
  have key : binOp op t x y = (do pure (Value.bool ((← Op.equal t x y) == b))) := by
    cases op <;> simp only [isEq, Option.some.injEq, reduceCtorEq] at hop
    all_goals
      subst hop
      cases x <;> first
        | exact absurd rfl (hx _ _)
        | exact absurd rfl (h2 _ _)
        | exact absurd rfl (h3 _ _ _)
        | exact absurd rfl (h4 _)
        | (simp only [binOp]; congr; funext c; cases c <;> rfl)
  rw [key]
  simp only [Sem.run_bind, he, Result.andThen_ok, Sem.run_pure]
  cases b <;> rfl
theorem run_guardP {P : Program} {op : BinOp} {t : TypeId} {x y : Operand} {a : Option Addr} (w : World) : (eqGuard op t x y (.pointer a) (.pointer none)).run P w = .ok () w := by
  cases op <;> rfl
theorem run_guardF {P : Program} {op : BinOp} {t : TypeId} {x y : Operand} {f : Fn} {ys zs : Array Value} (w : World) : (eqGuard op t x y (.func f ys zs) .nilFunc).run P w = .ok () w := by
  cases op <;> rfl
theorem aNil_ok {P : Program} {X : Mem} {w : World} {op : BinOp} {t : TypeId} {p : AV} {q y : Value} {xo yo : Operand} {c : AV} (h : aNil P op t (some p) y = some c) (hp : Rep X p q) : Yl P X w (do eqGuard op t xo yo q y; binOp op t q y) c := by
  unfold aNil at h
  split at h
  · rename_i b0 off b e1 hop
    injection e1 with e1
    subst e1
    split at h
    · rename_i hd
      injection h with h
      subst h
      refine ⟨.bool !b, .c (.v rfl), fun w' _ => ?_⟩
      cases hp with
      | ptr hb =>
        rename_i β
        have he : (Op.equal t (.pointer (some ⟨β, off, none⟩)) (.pointer none)).run P w' = .ok false w' := by
          unfold ptrD at hd
          split at hd
          · rename_i e ht
            show (Op.equalIn (9999 + 1) t _ _).run P w' = _
            unfold Op.equalIn
            simp [run_under ht]
          · cases hd
        rw [Sem.run_bind, run_guardP w']
        exact run_eqN hop (by simp) (by simp) (by simp) (by simp) w' he
    · cases h
  · rename_i f as bs b e1 hop
    injection e1 with e1
    subst e1
    split at h
    · rename_i hd
      injection h with h
      subst h
      refine ⟨.bool !b, .c (.v rfl), fun w' _ => ?_⟩
      cases hp with
      | fn h1 h2 h3 h4 =>
        rename_i ys zs
        have he : (Op.equal t (.func f ys zs) .nilFunc).run P w' = .ok false w' := by
          unfold funcD at hd
          split at hd
          · rename_i e1 e2 e3 ht
            show (Op.equalIn (9999 + 1) t _ _).run P w' = _
            unfold Op.equalIn
            simp [run_under ht]
          · cases hd
        rw [Sem.run_bind, run_guardF w']
        exact run_eqN hop (by simp) (by simp) (by simp) (by simp) w' he
    · cases h
  · cases h
theorem aAssert_ok {P : Program} {X : Mem} {w : World} {u t : TypeId} {ok : Bool} {p c : AV} {q : Value} (h : aAssert P t ok p = some c) (hp : Rep X p q) : Yl P X w (Instr.typeAssert q u t ok) c := by
  unfold aAssert at h
  split at h
  · rename_i u' c'
    split at h
    · rename_i hc
      simp only [Bool.and_eq_true] at hc
      obtain ⟨⟨hc1, hc2⟩, hc3⟩ := hc
      have hc1 := Nat.eq_of_beq_eq_true hc1
      subst hc1
      injection h with h
      cases hp with
      | ifc hr =>
        rename_i x
        obtain ⟨d, hd⟩ := Option.isSome_iff_exists.1 hc3
        have hni : ∀ ms, d ≠ .interface ms := fun ms e => by
          subst e
          rw [hd] at hc2
          simp [ifaceD] at hc2
        have hrun : ∀ w', (Instr.typeAssert (.iface u' x) u u' ok).run P w' = .ok (if ok then .tuple #[x, .bool true] else x) w' := fun w' => by
          unfold Instr.typeAssert
          rw [Sem.run_bind, run_under hd]
          cases d <;> first
            | exact absurd rfl (hni _)
            | (cases ok <;> simp)
        cases ok with
        | true =>
          subst h
          refine ⟨_, .tup (xs := #[x, .bool true]) rfl (fun i e v h1 h2 => ?_), fun w' _ => hrun w'⟩
          match i with
          | 0 => simp at h1 h2; subst h1 h2; exact hr
          | 1 => simp at h1 h2; subst h1 h2; exact .c (.v rfl)
          | i + 2 => simp at h1
        | false =>
          subst h
          exact ⟨_, hr, fun w' _ => hrun w'⟩
    · cases h
  · cases h
def YlN (P : Program) (X : Mem) (w : World) (s : Sem Next) (c : AV) : Prop := ∃ V, Rep X c V ∧ ∀ w', Ag X w w' → s.run P w' = .ok (.value V) w'
theorem yln {P : Program} {X : Mem} {w : World} {s : Sem Value} {c : AV} (h : Yl P X w s c) : YlN P X w (do pure (.value (← s))) c := by
  obtain ⟨V, h1, h2⟩ := h
  exact ⟨V, h1, fun w' A => by simp [h2 w' A]⟩
theorem yl_av1 {P : Program} {X : Mem} {w : World} {s : Sem Value} {c : AV} (h : av1 (pureVal P s) = some c) : Yl P X w s c := by
  unfold av1 at h
  split at h
  · rename_i v hv
    exact yl_pure hv h
  · cases h
theorem calmB_ok {P : Program} {X : Mem} {W0 w : World} {m : Mm} {nt : Nat} {fr : List (Nat × AV)} {a : Act} (F : FR X nt fr a) (M : MR X W0 m w) {ty : TypeId} {b : Builtin} {args : Array Operand} {argTypes : Array TypeId} {consts : Array Bool} {c : AV}
    (h : calmB P fr m ty b args.toList argTypes = some c) : YlN P X w (builtin b argTypes ty consts (args.map a.eval)) c := by
  unfold calmB at h
  split at h
  · split at h
    · rename_i x t e1 e2
      have ea : args.map a.eval = #[a.eval x] := by
        apply Array.ext'
        simp [e1]
      split at h
      · rename_i hs
        split at h
        · rename_i cc hc
          split at h
          · rename_i n cs h1
            injection h with h
            subst h
            obtain ⟨ad, cap, xs, h2, _⟩ := slV_rep h1 (opd_rep F hc)
            unfold sliceD at hs
            split at hs
            · rename_i e ht
              refine yln ⟨.int .i64 n, .c (.v rfl), fun w' _ => ?_⟩
              simp [Builtin.len_, ea, e2, run_under ht, h2, goInt]
            · cases hs
          · split at h
            · rename_i b0 lo n k hl
              injection h with h
              subst h
              obtain rfl := lsV_eq hl
              have hr := opd_rep F hc
              generalize hq : a.eval x = q at hr
              cases hr with
              | lsl h1 h2 h3 h4 h5 =>
                unfold sliceD at hs
                split at hs
                · rename_i e ht
                  refine yln ⟨.int .i64 n, .c (.v rfl), fun w' _ => ?_⟩
                  simp [Builtin.len_, ea, e2, run_under ht, hq, goInt]
                · cases hs
            · cases h
        · cases h
      · split at h
        · rename_i hm
          unfold mapD at hm
          split at hm
          · rename_i kt e ht
            split at h
            · rename_i cc hc
              rw [ea]
              have et : argTypes[0]? = some t := e2
              obtain ⟨V, g1, g2⟩ := aMapLen_ok (P := P) (ty := ty) M ht h (opd_rep F hc)
              refine yln ⟨V, g1, fun w' A => ?_⟩
              have g3 := g2 w' A
              simp only [Builtin.len_, List.getElem?_toArray, List.getElem?_cons_zero] at g3 ⊢
              rw [et]
              exact g3
            · cases h
          · cases hm
        · split at h
          · rename_i v hv
            rw [ea, opdV_eq F hv]
            exact yln (yl_av1 h)
          · cases h
    · cases h
  · split at h
    · rename_i vs hvs
      have ea : args.map a.eval = vs.toArray := by
        apply Array.ext'
        simp [← oprsV_eq F hvs]
      rw [ea]
      exact yln (yl_av1 h)
    · cases h
  · split at h
    · rename_i vs hvs
      have ea : args.map a.eval = vs.toArray := by
        apply Array.ext'
        simp [← oprsV_eq F hvs]
      rw [ea]
      exact yln (yl_av1 h)
    · cases h
  · cases h
theorem bnd_or {X : Mem} {nt : Nat} {fr : List (Nat × AV)} {a : Act} (F : FR X nt fr a) {o : Option Operand} {i : Option Int} (h : bnd fr o = some i) : i = none ∧ o.map a.eval = none ∨ ∃ k j, i = some j ∧ o.map a.eval = some (.int k j) := by
  cases i with
  | none => exact Or.inl ⟨rfl, bnd_none h F⟩
  | some j =>
    obtain ⟨k, hk⟩ := bnd_some F h
    exact Or.inr ⟨k, j, rfl, hk⟩
theorem calm_ok {P : Program} {X : Mem} {W0 w : World} {m : Mm} {nt : Nat} {fr : List (Nat × AV)} {a : Act} (F : FR X nt fr a) (M : MR X W0 m w) {o : Oper} {c : AV} (h : calm P fr m o = some c) : YlN P X w (execOp a.eval o) c := by
  obtain ⟨dst, op, type, pos, after, guard⟩ := o
  unfold calm at h
  cases op <;> simp only at h <;> try (cases h; done)
  case move x => exact ⟨_, opd_rep F h, fun w' _ => rfl⟩
  case assign x => exact ⟨_, opd_rep F h, fun w' _ => rfl⟩
  case pick x y z =>
    split at h
    · rename_i t hx
      have := opd_rep F hx
      have hb : a.eval x = .bool t := val_rep rfl this
      cases t with
      | true => exact ⟨_, opd_rep F h, fun w' _ => by simp [execOp, hb, asBool]⟩
      | false => exact ⟨_, opd_rep F h, fun w' _ => by simp [execOp, hb, asBool]⟩
    · cases h
  case binOp op t x y yt =>
    split at h
    · rename_i u v h1 h2
      simp only [execOp]
      rw [opdV_eq F h1, opdV_eq F h2]
      exact yln (yl_av1 h)
    · rename_i v h1 h2
      cases hx : opd fr x with
      | none => rw [hx] at h; simp [aNil] at h
      | some p =>
        rw [hx] at h
        simp only [execOp]
        rw [opdV_eq F h2]
        exact yln (aNil_ok h (opd_rep F hx))
    · cases h
  case makeInterface t x =>
    split at h
    · rename_i e hx
      split at h
      · rename_i hc
        simp only [Bool.and_eq_true] at hc
        obtain ⟨d, hd⟩ := Option.isSome_iff_exists.1 hc.2
        injection h with h
        subst h
        refine yln ⟨.iface t (a.eval x), .ifc (opd_rep F hx), fun w' _ => ?_⟩
        unfold Instr.makeInterface
        rw [Sem.run_bind, run_under hd]
        have hni := hc.1
        rw [hd] at hni
        cases d <;> first
          | (simp [ifaceD] at hni; done)
          | rfl
      · cases h
    · cases h
  case typeAssert x u t ok =>
    split at h
    · rename_i e hx
      exact yln (aAssert_ok h (opd_rep F hx))
    · cases h
  case unOp op t x =>
    split at h
    · rename_i u h1
      simp only [execOp]
      rw [opdV_eq F h1]
      exact yln (yl_av1 h)
    · cases h
  case convert s d x =>
    split at h
    · rename_i u h1
      simp only [execOp]
      rw [opdV_eq F h1]
      exact yln (yl_av1 h)
    · cases h
  case load t x =>
    split at h
    · rename_i p hp
      exact yln (aLoad_ok M h (opd_rep F hp))
    · cases h
  case fieldAddr s x f =>
    split at h
    · rename_i p hp
      exact yln (aFieldAddr_ok h (opd_rep F hp))
    · cases h
  case field t x f =>
    split at h
    · rename_i p hp
      exact yln (aField_ok h (opd_rep F hp))
    · cases h
  case indexAddr t x ix =>
    split at h
    · rename_i p i hp hi
      split at h
      · exact yln (aIndexL_ok h (opd_rep F hp) (opd_rep F hi))
      · exact yln (aIndexAddr_ok h (opd_rep F hp) (opd_rep F hi))
    · cases h
  case lookup t x k ok =>
    split at h
    · rename_i p v hp hv
      simp only [execOp]
      rw [opdV_eq F hv]
      exact yln (aLookup_ok M h (opd_rep F hp))
    · cases h
  case index t x ix =>
    split at h
    · rename_i p i hp hi
      split at h
      · exact yln (aIndex_ok h (opd_rep F hp) (opd_rep F hi))
      · split at h
        · rename_i u v hu hv
          simp only [execOp]
          rw [val_rep hu (opd_rep F hp), val_rep hv (opd_rep F hi)]
          exact yln (yl_av1 h)
        · cases h
    · cases h
  case slice t x lo hi mx =>
    split at h
    · rename_i p hp
      split at h
      · rename_i v hv
        split at h
        · rename_i l hh mm h1 h2 h3
          simp only [execOp]
          rw [val_rep hv (opd_rep F hp), optV_eq F h1, optV_eq F h2, optV_eq F h3]
          exact yln (yl_av1 h)
        · cases h
      · split at h
        · rename_i l hh mm h1 h2 h3
          split at h
          · exact yln (aSliceL_ok h (opd_rep F hp) (bnd_or F h1) (bnd_or F h2) (bnd_or F h3))
          · exact yln (aSlice_ok h (opd_rep F hp) (bnd_or F h1) (bnd_or F h2) (bnd_or F h3))
        · cases h
    · cases h
  case extract x i =>
    split at h
    · rename_i p hp
      exact yln (aExtract_ok h (opd_rep F hp))
    · cases h
  case build t ps =>
    split at h
    · rename_i cs hcs
      have hpr := oprps_rep F hcs
      unfold orBuild at h
      split at h
      · rename_i c' hb
        injection h with h
        subst h
        exact yln (aBuild_ok hb (by simpa using hpr))
      · exact yln (aBuildV_ok h (by simpa using hpr))
    · cases h
  case makeFunc f first captured =>
    split at h
    · rename_i as bs h1 h2
      injection h with h
      subst h
      have r1 := oprs_rep F h1
      have r2 := oprs_rep F h2
      exact yln ⟨_, .fn (ys := first.map a.eval) (zs := captured.map a.eval) (by simpa using r1.1) (by simpa using r1.2) (by simpa using r2.1) (by simpa using r2.2), fun w' _ => rfl⟩
    · cases h
  case nilCheck x =>
    split at h
    · rename_i b off hp
      injection h with h
      subst h
      have := opd_rep F hp
      refine ⟨_, this, fun w' _ => ?_⟩
      generalize hq : a.eval x = q at this
      cases this with
      | ptr hb => simp [execOp, hq]
    · rename_i cs hp
      injection h with h
      subst h
      have := opd_rep F hp
      refine ⟨_, this, fun w' _ => ?_⟩
      generalize hq : a.eval x = q at this
      cases this with
      | cptr => simp [execOp, hq]
    · rename_i f as bs hp
      injection h with h
      subst h
      have := opd_rep F hp
      refine ⟨_, this, fun w' _ => ?_⟩
      generalize hq : a.eval x = q at this
      cases this with
      | fn => simp [execOp, hq]
    · cases h
  case call cl =>
    split at h
    · rename_i b hb
      obtain ⟨V, h1, h2⟩ := calmB_ok (w := w) (consts := cl.args.map fun | .const _ => true | _ => false) F M h
      refine ⟨V, h1, fun w' A => ?_⟩
      have := h2 w' A
      simp only [execOp, resolve, hb, Sem.run_bind, Sem.run_pure, Result.andThen_ok, invoke]
      exact this
    · cases h
end Go.Vs.Ab
