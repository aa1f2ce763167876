/-
  Operations on abstract values that change nothing, all of them. No program in sight.
-/
import Derived.Test.YtinbfakpjnnagaaDoorDNAb
namespace Go.Vs.Ab
open Go.RowKit
/-! ### slices -/
def bnd (fr : List (Nat × AV)) : Option Operand → Option (Option Int)
  | none => some none
  | some x => match opd fr x with
    | some c => (intV c).map some
    | none => none
theorem bnd_none {X : Mem} {nt : Nat} {fr : List (Nat × AV)} {a : Act} {o : Option Operand} (h : bnd fr o = some none) (_ : FR X nt fr a) : o.map a.eval = none := by
  cases o with
  | none => rfl
  | some x =>
    simp only [bnd] at h
    split at h
    · simp only [Option.map_eq_some_iff] at h
      obtain ⟨_, _, h⟩ := h
      cases h
    · cases h
theorem bnd_some {X : Mem} {nt : Nat} {fr : List (Nat × AV)} {a : Act} (F : FR X nt fr a) {o : Option Operand} {i : Int} (h : bnd fr o = some (some i)) : ∃ k, o.map a.eval = some (.int k i) := by
  cases o with
  | none => simp [bnd] at h
  | some x =>
    simp only [bnd] at h
    split at h
    · rename_i c hc
      simp only [Option.map_eq_some_iff] at h
      obtain ⟨i', h1, h2⟩ := h
      injection h2 with h2
      subst h2
      obtain ⟨k, hk⟩ := intV_rep h1 (opd_rep F hc)
      exact ⟨k, by simp [hk]⟩
    · cases h
def natI (i : Int) : Option Nat := match i with
  | .ofNat n => some n
  | .negSucc _ => none
theorem natI_eq {i : Int} {n : Nat} (h : natI i = some n) : i = (n : Int) := by
  cases i with
  | ofNat m => simp [natI] at h; subst h; rfl
  | negSucc m => simp [natI] at h
def bnds (n : Nat) (lo hi mx : Option Int) : Option (Nat × Nat × Option Nat) :=
  match (match lo with | none => some 0 | some i => natI i), (match hi with | none => some n | some i => natI i), (match mx with | none => some none | some i => (natI i).map some) with
  | some l, some h, some none => if Nat.ble l h && Nat.ble h n then some (l, h, none) else none
  | some l, some h, some (some m) => if Nat.ble l h && Nat.ble h m && Nat.ble m n && hi.isSome then some (l, h, some m) else none
  | _, _, _ => none
def resl (p : AV) (n l h : Nat) (m : Option Nat) (cs : List CV) : AV :=
  match m with
  | some m => .c (.sl (Nat.beq m h) (h - l) cs)
  | none => if Nat.beq l 0 && Nat.beq h n then p else
    match p with
    | .c (.sl true _ _) => .c (.sl (Nat.beq h n) (h - l) cs)
    | _ => .c (.sl false (h - l) cs)
def aSlice (P : Program) (t : TypeId) (p : AV) (lo hi mx : Option Int) : Option AV :=
  match P.underlying t with
  | some (.slice e) =>
    match slV p, tsz P e with
    | some (n, cs), some inf =>
      match bnds n lo hi mx with
      | some (l, h, m) => if Nat.ble (h * inf) cs.length then some (resl p n l h m ((cs.drop (l * inf)).take ((h - l) * inf))) else none
      | none => none
    | _, _ => none
  | _ => none
theorem bnds_spec {n : Nat} {lo hi mx : Option Int} {l h : Nat} {m : Option Nat} (hb : bnds n lo hi mx = some (l, h, m)) :
    (lo = none ∧ l = 0 ∨ lo = some (l : Int)) ∧ (hi = none ∧ h = n ∧ m = none ∨ hi = some (h : Int)) ∧ mx = m.map (fun (k : Nat) => (k : Int)) ∧ l ≤ h ∧ h ≤ n ∧ (∀ k, m = some k → h ≤ k ∧ k ≤ n) := by
  unfold bnds at hb
  split at hb
  · rename_i l' h' e1 e2 e3
    split at hb
    · rename_i hc
      simp only [Bool.and_eq_true, Nat.ble_eq] at hc
      simp only [Option.some.injEq, Prod.mk.injEq] at hb
      obtain ⟨rfl, rfl, rfl⟩ := hb
      refine ⟨?_, ?_, ?_, hc.1, hc.2, fun k hk => by cases hk⟩
      · cases lo with
        | none => left; simp at e1; exact ⟨rfl, e1.symm⟩
        | some i => right; simp at e1; rw [natI_eq e1]
      · cases hi with
        | none => left; simp at e2; exact ⟨rfl, e2.symm, rfl⟩
        | some i => right; simp at e2; rw [natI_eq e2]
      · cases mx with
        | none => rfl
        | some i => simp at e3
    · cases hb
  · rename_i l' h' m' e1 e2 e3
    split at hb
    · rename_i hc
      simp only [Bool.and_eq_true, Nat.ble_eq] at hc
      simp only [Option.some.injEq, Prod.mk.injEq] at hb
      obtain ⟨rfl, rfl, rfl⟩ := hb
      refine ⟨?_, ?_, ?_, hc.1.1.1, by omega, fun k hk => by injection hk with hk; subst hk; exact ⟨hc.1.1.2, hc.1.2⟩⟩
      · cases lo with
        | none => left; simp at e1; exact ⟨rfl, e1.symm⟩
        | some i => right; simp at e1; rw [natI_eq e1]
      · cases hi with
        | none => simp at hc
        | some i => right; simp at e2; rw [natI_eq e2]
      · cases mx with
        | none => simp at e3
        | some i =>
          simp only [Option.map_eq_some_iff] at e3
          obtain ⟨k, h1, h2⟩ := e3
          injection h2 with h2
          subst h2
          simp [natI_eq h1]
    · cases hb
  · cases hb
theorem run_bounds {P : Program} {n cap l h : Nat} {m : Option Nat} {lo hi mx : Option Value} (h1 : lo = none ∧ l = 0 ∨ ∃ k, lo = some (.int k (l : Int))) (h2 : hi = none ∧ h = n ∧ m = none ∨ ∃ k, hi = some (.int k (h : Int)))
    (h3 : (mx = none ∧ m = none) ∨ ∃ k, ∃ j : Nat, mx = some (.int k (j : Int)) ∧ m = some j) (hl : l ≤ h) (hn : h ≤ n) (hc : n ≤ cap) (hm : ∀ k, m = some k → h ≤ k ∧ k ≤ n) (w : World) :
    (Instr.sliceBounds true n cap lo hi mx).run P w = .ok (l, h, m.getD cap) w := by
  rcases h3 with ⟨rfl, rfl⟩ | ⟨k3, j, rfl, rfl⟩
  · rcases h2 with ⟨rfl, rfl, _⟩ | ⟨k2, rfl⟩
    · rcases h1 with ⟨rfl, rfl⟩ | ⟨k1, rfl⟩
      · simp [Instr.sliceBounds]
      · simp [Instr.sliceBounds, Instr.sliceBound, asIntOf, hl]
    · rcases h1 with ⟨rfl, rfl⟩ | ⟨k1, rfl⟩
      · simp [Instr.sliceBounds, Instr.sliceBound, asIntOf, show h ≤ cap by omega]
      · simp [Instr.sliceBounds, Instr.sliceBound, asIntOf, hl, show h ≤ cap by omega]
  · obtain ⟨h4, h5⟩ := hm j rfl
    rcases h2 with ⟨_, _, h6⟩ | ⟨k2, rfl⟩
    · cases h6
    · rcases h1 with ⟨rfl, rfl⟩ | ⟨k1, rfl⟩
      · simp [Instr.sliceBounds, Instr.sliceBound, asIntOf, h4, show j ≤ cap by omega]
      · simp [Instr.sliceBounds, Instr.sliceBound, asIntOf, hl, h4, show j ≤ cap by omega]
theorem aSlice_ok {P : Program} {X : Mem} {w : World} {t : TypeId} {p c : AV} {q : Value} {lo hi mx : Option Int} {vlo vhi vmx : Option Value} (h : aSlice P t p lo hi mx = some c) (hp : Rep X p q)
    (hlo : lo = none ∧ vlo = none ∨ ∃ k i, lo = some i ∧ vlo = some (.int k i)) (hhi : hi = none ∧ vhi = none ∨ ∃ k i, hi = some i ∧ vhi = some (.int k i)) (hmx : mx = none ∧ vmx = none ∨ ∃ k i, mx = some i ∧ vmx = some (.int k i)) :
    Yl P X w (Instr.sliceAt t q vlo vhi vmx) c := by
  unfold aSlice at h
  split at h
  · rename_i e ht
    split at h
    · rename_i n cs inf h1 h2
      have q0 := tsz_spec h2
      clear h2
      obtain ⟨inf, h2, rfl⟩ := q0
      split at h
      · rename_i l hh m hb
        split at h
        · rename_i hle
          simp only [Nat.ble_eq] at hle
          injection h with h
          obtain ⟨b1, b2, b3, b4, b5, b6⟩ := bnds_spec hb
          have hp0 := hp
          obtain ⟨a, cap, xs, rfl, hr, hn, hc, hx⟩ := slV_rep h1 hp
          have hrun : ∀ w', (Instr.sliceAt t (.slice a n cap) vlo vhi vmx).run P w' = .ok (.slice (if m.getD cap = l then a else a.map (·.add (l * inf.size))) (hh - l) (m.getD cap - l)) w' := fun w' => by
            have := run_bounds (P := P) (n := n) (cap := cap) (l := l) (h := hh) (m := m) (lo := vlo) (hi := vhi) (mx := vmx)
              (by rcases hlo with ⟨rfl, rfl⟩ | ⟨k, i, rfl, rfl⟩
                  · rcases b1 with ⟨_, e⟩ | e
                    · exact Or.inl ⟨rfl, e⟩
                    · cases e
                  · rcases b1 with ⟨e, _⟩ | e
                    · cases e
                    · injection e with e; exact Or.inr ⟨k, by rw [e]⟩)
              (by rcases hhi with ⟨rfl, rfl⟩ | ⟨k, i, rfl, rfl⟩
                  · rcases b2 with ⟨_, e⟩ | e
                    · exact Or.inl ⟨rfl, e⟩
                    · cases e
                  · rcases b2 with ⟨e, _⟩ | e
                    · cases e
                    · injection e with e; exact Or.inr ⟨k, by rw [e]⟩)
              (by rcases hmx with ⟨rfl, rfl⟩ | ⟨k, i, rfl, rfl⟩
                  · cases m with
                    | none => exact Or.inl ⟨rfl, rfl⟩
                    | some j' => cases b3
                  · cases m with
                    | none => cases b3
                    | some j' => simp at b3; exact Or.inr ⟨k, j', by rw [b3], rfl⟩) b4 b5 hn b6 w'
            simp [Instr.sliceAt, Instr.slice, run_under ht, run_size h2, this]
          have hcont : At X.cell (if m.getD cap = l then a else a.map (·.add (l * inf.size))) ((xs.drop (l * inf.size)).take ((hh - l) * inf.size)) := by
            by_cases hml : m.getD cap = l
            · have : hh - l = 0 := by
                cases m with
                | none => simp at hml; omega
                | some j => have := b6 j rfl; simp at hml; omega
              rw [this, Nat.zero_mul, List.take_zero]
              exact fun j x h => by cases h
            · rw [if_neg hml]
              refine At.take ?_ _
              by_cases hl : 0 < xs.length
              · obtain ⟨b, o, rfl⟩ := hx.some hl
                simp only [Option.map_some, add_none]
                exact hx.drop _
              · rw [List.eq_nil_of_length_eq_zero (by omega : xs.length = 0), List.drop_nil]
                exact fun j x h => by cases h
          have hrep : RepCs X.cell ((cs.drop (l * inf.size)).take ((hh - l) * inf.size)) ((xs.drop (l * inf.size)).take ((hh - l) * inf.size)) := (hr.drop _).take _
          have gen : ∀ ex : Bool, (ex = true → m.getD cap = hh) → Rep X (.c (.sl ex (hh - l) ((cs.drop (l * inf.size)).take ((hh - l) * inf.size)))) (.slice (if m.getD cap = l then a else a.map (·.add (l * inf.size))) (hh - l) (m.getD cap - l)) := fun ex he => by
            have hc1 := hc.1
            refine .c (.sl hrep.1 hrep.2 ?_ ⟨?_, fun e => ?_⟩ ?_ hcont)
            · cases m with
              | none => simp; omega
              | some j => have := b6 j rfl; simp; omega
            · cases m with
              | none => simp; omega
              | some j => have := b6 j rfl; simp; omega
            · by_cases hml : m.getD cap = l
              · omega
              · rw [if_neg hml] at e
                have h0 := hc.2 (by simpa using e)
                cases m with
                | none => simp [h0]
                | some j => have := b6 j rfl; simp; omega
            · intro e; rw [he e]
          subst h
          refine ⟨_, ?_, fun w' _ => hrun w'⟩
          unfold resl
          split
          · rename_i j
            exact gen _ (fun e => Nat.eq_of_beq_eq_true e)
          · split
            · rename_i hlh
              simp only [Bool.and_eq_true] at hlh
              have e1 := Nat.eq_of_beq_eq_true hlh.1
              have e2 := Nat.eq_of_beq_eq_true hlh.2
              clear hrun hcont gen hrep b1 b2 b6 hb hlh
              subst e1 e2
              have : (if (none : Option Nat).getD cap = 0 then a else a.map (·.add (0 * inf.size))) = a := by
                simp [Addr.add]
              rw [this]
              exact hp0
            · split
              · cases hp0 with
                | c hr0 => cases hr0 with
                  | sl _ _ _ _ he _ =>
                    clear h1
                    refine gen _ (fun e => ?_)
                    have e := Nat.eq_of_beq_eq_true e
                    simp [he rfl, e]
              · exact gen _ (fun e => by cases e)
        · cases h
      · cases h
    · cases h
  · cases h
/-! ### parts of values -/
def aPart (P : Program) (t : TypeId) (cs : List CV) (off : Nat) : Option AV :=
  match P.underlying t, tsz P t with
  | some d, some i => if aggD d then (if Nat.ble (off + i) cs.length then some (.agg ((cs.drop off).take i)) else none) else (cs[off]?).map .c
  | _, _ => none
theorem aPart_ok {P : Program} {X : Mem} {t : TypeId} {cs : List CV} {off : Nat} {c : AV} {xs : Array Value} (h : aPart P t cs off = some c) (hr : RepCs X.cell cs xs.toList) :
    ∃ V, Rep X c V ∧ ∀ w, (part t xs off).run P w = .ok V w := by
  unfold aPart at h
  split at h
  · rename_i d i hd hi
    have q0 := tsz_spec hi
    clear hi
    obtain ⟨i, hi, rfl⟩ := q0
    split at h
    · rename_i ha
      split at h
      · rename_i hle
        injection h with h
        subst h
        refine ⟨.agg (xs.extract off (off + i.size)), .agg ?_, fun w => by simp [part, run_isAgg hd, ha, run_size hi]⟩
        have : (xs.extract off (off + i.size)).toList = (xs.toList.drop off).take i.size := by
          rw [Array.toList_extract]
          simp [List.extract_eq_take_drop]
        rw [this]
        exact (hr.drop off).take i.size
      · cases h
    · rename_i ha
      simp only [Option.map_eq_some_iff] at h
      obtain ⟨e, h1, rfl⟩ := h
      obtain ⟨x, h2, h3⟩ := hr.get h1
      refine ⟨x, .c h3, fun w => ?_⟩
      have h2 : xs[off]? = some x := by simpa using h2
      simp [part, run_isAgg hd, ha, h2]
  · cases h
def aField (P : Program) (t f : Nat) (c : AV) : Option AV :=
  match P.underlying t, c with
  | some (.struct fs), .agg cs => match fs[f]? with
    | some fd => aPart P fd.type cs fd.offset
    | none => none
  | _, _ => none
theorem aField_ok {P : Program} {X : Mem} {w : World} {t f : Nat} {p c : AV} {q : Value} (h : aField P t f p = some c) (hp : Rep X p q) : Yl P X w (Instr.field t q f) c := by
  unfold aField at h
  split at h
  · rename_i fs cs ht
    split at h
    · rename_i fd h2
      cases hp with
      | agg hr =>
        obtain ⟨V, h3, h4⟩ := aPart_ok h hr
        exact ⟨V, h3, fun w' _ => by simp [Instr.field, run_under ht, h2, asAgg, h4]⟩
    · cases h
  · cases h
def aIndex (P : Program) (t : TypeId) (c ix : AV) : Option AV :=
  match P.underlying t, c, intV ix with
  | some (.array n e), .agg cs, some i => match natI i, tsz P e with
    | some j, some inf => if Nat.blt j n then aPart P e cs (j * inf) else none
    | _, _ => none
  | _, _, _ => none
theorem aIndex_ok {P : Program} {X : Mem} {w : World} {t : TypeId} {p ix c : AV} {q j : Value} (h : aIndex P t p ix = some c) (hp : Rep X p q) (hj : Rep X ix j) : Yl P X w (Instr.index t q j) c := by
  unfold aIndex at h
  split at h
  · rename_i n e cs i ht hi
    obtain ⟨k, rfl⟩ := intV_rep hi hj
    split at h
    · rename_i j inf h1 h2
      have q0 := tsz_spec h2
      clear h2
      obtain ⟨inf, h2, rfl⟩ := q0
      have := natI_eq h1
      subst this
      split at h
      · rename_i hlt
        simp only [Nat.blt_eq] at hlt
        cases hp with
        | agg hr =>
          obtain ⟨V, h3, h4⟩ := aPart_ok h hr
          exact ⟨V, h3, fun w' _ => by simp [Instr.index, asIntOf, run_under ht, hlt, run_size h2, h4]⟩
      · cases h
    · cases h
  · cases h
def aExtract (i : Nat) : AV → Option AV
  | .tup vs => vs[i]?
  | _ => none
theorem aExtract_ok {P : Program} {X : Mem} {w : World} {i : Nat} {p c : AV} {q : Value} (h : aExtract i p = some c) (hp : Rep X p q) : Yl P X w (Instr.extract q i) c := by
  cases hp with
  | tup hl hr =>
    rename_i vs xs
    simp only [aExtract] at h
    have hi := (List.getElem?_eq_some_iff.1 h).1
    have h1 : i < xs.size := by have := hl; simp at this; omega
    refine ⟨xs[i], hr i c xs[i] h (by simp [h1]), fun w' _ => ?_⟩
    simp [Instr.extract, h1]
  | _ => simp [aExtract] at h
/-! ### structs from their parts -/
def cells : AV → Option (List CV)
  | .agg cs => some cs
  | x => (clean x).map fun c => [c]
theorem cells_rep {X : Mem} {c : AV} {cs : List CV} {x : Value} (h : cells c = some cs) (hr : Rep X c x) : RepCs X.cell cs x.cells.toList := by
  have one : ∀ {d : CV} {x : Value}, RepC X.cell d x → RepCs X.cell [d] x.cells.toList := fun {d x} hd => by
    have : x.cells = #[x] := by cases hd <;> (first | rfl | (cases x <;> first | rfl | simp [Value.oneCell'] at *))
    rw [this]
    refine ⟨rfl, fun i c y h1 h2 => ?_⟩
    cases i with
    | zero => simp at h1 h2; subst h1 h2; exact hd
    | succ i => simp at h1
  cases c with
  | agg ds =>
    simp only [cells, Option.some.injEq] at h
    subst h
    cases hr with
    | agg hr => exact hr
  | c d =>
    simp only [cells, clean, Option.map_some, Option.some.injEq] at h
    subst h
    cases hr with
    | c hr => exact one hr
  | own k n ds =>
    simp only [cells, clean, Option.map_some, Option.some.injEq] at h
    subst h
    exact one hr.ro
  | tup => simp [cells, clean] at h
  | ptr => simp [cells, clean] at h
  | cptr => simp [cells, clean] at h
  | fn => simp [cells, clean] at h
  | lsl => simp [cells, clean] at h
  | mapp => simp [cells, clean] at h
  | ifc => simp [cells, clean] at h
  | strc => simp [cells, clean] at h
  | ent => simp [cells, clean] at h
  | bld => simp [cells, clean] at h
  | byt => simp [cells, clean] at h
  | dead => simp [cells, clean] at h
def splice (cs : List CV) (off : Nat) (ds : List CV) : List CV := cs.take off ++ ds ++ cs.drop (off + ds.length)
def aFill (place : Nat → Option (Nat × Nat)) : List CV → List (Nat × AV) → Option (List CV)
  | cs, [] => some cs
  | cs, (i, v) :: r =>
    match place i, cells v with
    | some (off, size), some ds => if Nat.beq ds.length size && Nat.ble (off + ds.length) cs.length then aFill place (splice cs off ds) r else none
    | _, _ => none
theorem foldl_set (off : Nat) : ∀ (ds : List Value) (k : Nat) (cells : Array Value), off + k + ds.length ≤ cells.size →
    ((ds.zipIdx k).foldl (fun cs (c, j) => cs.setIfInBounds (off + j) c) cells).toList = cells.toList.take (off + k) ++ ds ++ cells.toList.drop (off + k + ds.length)
  | [], k, cells, h => by simp
  | d :: ds, k, cells, h => by
    simp only [List.length_cons] at h
    rw [List.zipIdx_cons, List.foldl_cons, foldl_set off ds (k + 1) _ (by simp; omega)]
    apply List.ext_getElem?
    intro i
    simp only [Array.toList_setIfInBounds, List.getElem?_append, List.length_append, List.length_take, List.length_set, Array.length_toList, List.getElem?_take, List.getElem?_drop, List.getElem?_set, List.length_cons, List.getElem?_cons]
    rw [Nat.min_eq_left (by omega : off + (k + 1) ≤ cells.size), Nat.min_eq_left (by omega : off + k ≤ cells.size)]
    by_cases h1 : i < off + k
    · rw [if_pos (by omega), if_pos (by omega), if_pos (by omega), if_neg (by omega), if_pos (by omega), if_pos (by omega), if_pos (by omega)]
    · by_cases h2 : i = off + k
      · subst h2
        rw [if_pos (by omega), if_pos (by omega), if_pos (by omega), if_pos rfl, if_pos (by omega), if_pos (by omega), if_neg (by omega), if_pos (by omega)]
      · by_cases h3 : i < off + k + 1 + ds.length
        · rw [if_pos (by omega), if_neg (by omega), if_pos (by omega), if_neg (by omega), if_neg (by omega)]
          have : i - (off + (k + 1)) = i - (off + k) - 1 := by omega
          simp only [this]
        · rw [if_neg (by omega), if_neg (by omega), if_neg (by omega)]
          congr 1
          omega
theorem rep_splice {C : Nat → Nat → Option Value} {cs ds : List CV} {xs ys : List Value} {off : Nat} (h : RepCs C cs xs) (k : RepCs C ds ys) (hle : off + ds.length ≤ cs.length) :
    RepCs C (splice cs off ds) (xs.take off ++ ys ++ xs.drop (off + ys.length)) := by
  have e1 := h.1
  have e2 := k.1
  refine ⟨by simp [splice]; omega, fun i c x h1 h2 => ?_⟩
  unfold splice at h1
  simp only [List.getElem?_append, List.length_append, List.length_take, List.getElem?_take, List.getElem?_drop] at h1 h2
  rw [Nat.min_eq_left (by omega)] at h1 h2
  by_cases i1 : i < off
  · rw [if_pos (by omega), if_pos i1, if_pos i1] at h1 h2
    exact h.2 i c x h1 h2
  · by_cases i2 : i < off + ds.length
    · rw [if_pos (by omega), if_neg i1] at h1 h2
      exact k.2 _ c x h1 h2
    · rw [if_neg (by omega)] at h1 h2
      rw [← e2] at h2
      exact h.2 _ c x h1 h2
def Pairs (X : Mem) (ps : List (Nat × AV)) (qs : List (Nat × Value)) : Prop := ps.length = qs.length ∧ ∀ (i : Nat) (p : Nat × AV) (q : Nat × Value), ps[i]? = some p → qs[i]? = some q → p.1 = q.1 ∧ Rep X p.2 q.2
theorem aFill_ok {X : Mem} {place : Nat → Option (Nat × Nat)} : ∀ {ps : List (Nat × AV)} {qs : List (Nat × Value)} {cs ds : List CV} {xs : Array Value}, aFill place cs ps = some ds → Pairs X ps qs → RepCs X.cell cs xs.toList →
    ∃ ys : Array Value, Instr.fill place xs qs = some ys ∧ RepCs X.cell ds ys.toList
  | [], qs, cs, ds, xs, h, hp, hr => by
    simp only [aFill, Option.some.injEq] at h
    subst h
    cases qs with
    | nil => exact ⟨xs, rfl, hr⟩
    | cons => have := hp.1; simp at this
  | (i, v) :: r, qs, cs, ds, xs, h, hp, hr => by
    cases qs with
    | nil => have := hp.1; simp at this
    | cons q qs =>
      obtain ⟨j, y⟩ := q
      obtain ⟨e, hv⟩ := hp.2 0 _ _ rfl rfl
      simp only at e hv
      subst e
      unfold aFill at h
      split at h
      · rename_i off size es h1 h2
        split at h
        · rename_i hc
          simp only [Bool.and_eq_true, Nat.ble_eq] at hc
          replace hc := And.intro (Nat.eq_of_beq_eq_true hc.1) hc.2
          have hys := cells_rep h2 hv
          have hlen : y.cells.size = es.length := by have := hys.1; simp at this; exact this.symm
          have hxl : xs.size = cs.length := by have := hr.1; simp at this; exact this.symm
          have hfold : ((y.cells.zipIdx.foldl (fun cs (c, j) => cs.setIfInBounds (off + j) c) xs)).toList = xs.toList.take off ++ y.cells.toList ++ xs.toList.drop (off + y.cells.toList.length) := by
            rw [← Array.foldl_toList, Array.toList_zipIdx]
            have := foldl_set off y.cells.toList 0 xs (by simp; omega)
            simpa using this
          obtain ⟨ys, h3, h4⟩ := aFill_ok (xs := y.cells.zipIdx.foldl (fun cs (c, j) => cs.setIfInBounds (off + j) c) xs) h ⟨by simpa using hp.1, fun k p q h5 h6 => hp.2 (k + 1) p q (by simpa using h5) (by simpa using h6)⟩ (by rw [hfold]; exact rep_splice hr hys hc.2)
          refine ⟨ys, ?_, h4⟩
          unfold Instr.fill
          simp only [h1]
          rw [if_neg (by rw [hlen, hxl, hc.1]; simp only [ne_eq, not_true_eq_false, gt_iff_lt, Bool.or_eq_true, decide_eq_true_eq, false_or, Nat.not_lt]; omega)]
          exact h3
        · cases h
      · cases h
def placesOf (P : Program) : List Field → Option (List (Nat × Nat))
  | [] => some []
  | f :: fs => match tsz P f.type, placesOf P fs with
    | some s, some r => some ((f.offset, s) :: r)
    | _, _ => none
def aBuild (P : Program) (t : TypeId) (parts : List (Nat × AV)) : Option AV :=
  match P.underlying t, tzero P t with
  | some (.struct fs), some cs => match placesOf P fs.toList with
    | some places => (aFill (places[·]?) cs parts).map .agg
    | none => none
  | some (.array _ e), some cs => match tsz P e with
    | some sz => (aFill (fun k => some (k * sz, sz)) cs parts).map .agg
    | none => none
  | _, _ => none
theorem run_places {P : Program} : ∀ {fs : List Field} {ps : List (Nat × Nat)}, placesOf P fs = some ps → ∀ w, (fs.mapM fun f => do pure (f.offset, ← sizeOf f.type) : Sem (List (Nat × Nat))).run P w = .ok ps w
  | [], ps, h, w => by simp [placesOf] at h; subst h; simp
  | f :: fs, ps, h, w => by
    unfold placesOf at h
    split at h
    · rename_i s r h1 h2
      injection h with h
      subst h
      have q0 := tsz_spec h1
      clear h1
      obtain ⟨j, h3, rfl⟩ := q0
      have ih := run_places h2 w
      simp [List.mapM_cons, run_size h3]
      simp at ih
      simp [ih]
    · cases h
theorem aBuild_ok {P : Program} {X : Mem} {w : World} {t : TypeId} {ps : List (Nat × AV)} {qs : Array (Nat × Value)} {c : AV} (h : aBuild P t ps = some c) (hp : Pairs X ps qs.toList) : Yl P X w (Instr.build t qs) c := by
  unfold aBuild at h
  split at h
  · rename_i fs cs ht hc
    obtain ⟨i, z, hi, hz, hc⟩ := tzero_spec hc
    split at h
    · rename_i places hpl
      simp only [Option.map_eq_some_iff] at h
      obtain ⟨ds, h1, rfl⟩ := h
      obtain ⟨ys, h2, h3⟩ := aFill_ok (xs := z.cells) h1 hp (cvsOf_rep hc)
      refine ⟨.agg ys, .agg h3, fun w' _ => ?_⟩
      have hm := run_places hpl w'
      have hm2 : (fs.mapM fun f => do pure (f.offset, ← sizeOf f.type) : Sem (Array (Nat × Nat))).run P w' = .ok places.toArray w' := by
        rw [Array.mapM_eq_mapM_toList]
        simp only [Sem.run_map, hm, Result.andThen]
      have e : (fun (x : Nat) => places[x]?) = (fun (x : Nat) => places.toArray[x]?) := by funext x; simp
      rw [e] at h2
      simp only [Instr.build, Sem.run_bind, zeroValue, typeInfo, run_program, Result.andThen_ok, hi, Sem.run_pure, hz, run_under ht, hm2, h2]
    · cases h
  · rename_i n e cs ht hc
    obtain ⟨i, z, hi, hz, hc⟩ := tzero_spec hc
    split at h
    · rename_i sz hinf
      have q0 := tsz_spec hinf
      clear hinf
      obtain ⟨inf, hinf, rfl⟩ := q0
      simp only [Option.map_eq_some_iff] at h
      obtain ⟨ds, h1, rfl⟩ := h
      obtain ⟨ys, h2, h3⟩ := aFill_ok (xs := z.cells) h1 hp (cvsOf_rep hc)
      refine ⟨.agg ys, .agg h3, fun w' _ => ?_⟩
      simp only [Instr.build, Sem.run_bind, zeroValue, typeInfo, run_program, Result.andThen_ok, hi, Sem.run_pure, hz, run_under ht, run_size hinf, h2]
    · cases h
  · cases h
/-! ### structs that hold what leads to memory -/
def avCells : AV → Option (List AV)
  | .agg cs => some (cs.map .c)
  | .strc vs => some vs
  | .tup _ => none
  | x => some [x]
theorem reps_c {X : Mem} {cs : List CV} {xs : List Value} (h : RepCs X.cell cs xs) : Reps X (cs.map .c) xs := by
  refine ⟨by simpa using h.1, fun i c x h1 h2 => ?_⟩
  rw [List.getElem?_map, Option.map_eq_some_iff] at h1
  obtain ⟨d, h3, rfl⟩ := h1
  exact .c (h.2 i d x h3 h2)
theorem avCells_rep {X : Mem} {c : AV} {cs : List AV} {x : Value} (h : avCells c = some cs) (hr : Rep X c x) : Reps X cs x.cells.toList ∧ ∀ u ∈ x.cells.toList, u.oneCell' = true := by
  have one : ∀ {d : AV} {x : Value}, Rep X d x → x.oneCell' = true → Reps X [d] x.cells.toList ∧ ∀ u ∈ x.cells.toList, u.oneCell' = true := fun {d x} hd h1 => by
    have : x.cells = #[x] := by cases x <;> first | rfl | simp [Value.oneCell'] at h1
    rw [this]
    refine ⟨⟨rfl, fun i c y h1 h2 => ?_⟩, fun u hu => by simp at hu; subst hu; exact h1⟩
    cases i with
    | zero => simp at h1 h2; subst h1 h2; exact hd
    | succ i => simp at h1
  cases hr with
  | agg hr =>
    simp only [avCells, Option.some.injEq] at h
    subst h
    refine ⟨reps_c hr, fun u hu => ?_⟩
    obtain ⟨i, hi, rfl⟩ := List.mem_iff_getElem.1 hu
    have h2 := hr.1
    exact (hr.2 i _ _ (List.getElem?_eq_getElem (h2 ▸ hi)) (List.getElem?_eq_getElem hi)).one
  | tup => simp [avCells] at h
  | c hr =>
    simp only [avCells, Option.some.injEq] at h
    subst h
    exact one (.c hr) hr.one
  | own h1 h2 h3 h4 h5 => simp only [avCells, Option.some.injEq] at h; subst h; exact one (.own h1 h2 h3 h4 h5) rfl
  | ptr h1 => simp only [avCells, Option.some.injEq] at h; subst h; exact one (.ptr h1) rfl
  | cptr h1 h2 => simp only [avCells, Option.some.injEq] at h; subst h; exact one (.cptr h1 h2) rfl
  | fn h1 h2 h3 h4 => simp only [avCells, Option.some.injEq] at h; subst h; exact one (.fn h1 h2 h3 h4) rfl
  | lsl h1 h2 h3 h4 h5 => simp only [avCells, Option.some.injEq] at h; subst h; exact one (.lsl h1 h2 h3 h4 h5) rfl
  | mapp h1 => simp only [avCells, Option.some.injEq] at h; subst h; exact one (.mapp h1) rfl
  | ifc h1 => simp only [avCells, Option.some.injEq] at h; subst h; exact one (.ifc h1) rfl
  | strc hl hh h1 => simp only [avCells, Option.some.injEq] at h; subst h; exact ⟨⟨hl, hh⟩, h1⟩
theorem reps_splice {X : Mem} {cs ds : List AV} {xs ys : List Value} {off : Nat} (h : Reps X cs xs) (k : Reps X ds ys) (hle : off + ds.length ≤ cs.length) :
    Reps X (cs.take off ++ ds ++ cs.drop (off + ds.length)) (xs.take off ++ ys ++ xs.drop (off + ys.length)) := by
  have e1 := h.1
  have e2 := k.1
  refine ⟨by simp; omega, fun i c x h1 h2 => ?_⟩
  simp only [List.getElem?_append, List.length_append, List.length_take, List.getElem?_take, List.getElem?_drop] at h1 h2
  rw [Nat.min_eq_left (by omega)] at h1 h2
  by_cases i1 : i < off
  · rw [if_pos (by omega), if_pos i1, if_pos i1] at h1 h2
    exact h.2 i c x h1 h2
  · by_cases i2 : i < off + ds.length
    · rw [if_pos (by omega), if_neg i1] at h1 h2
      exact k.2 _ c x h1 h2
    · rw [if_neg (by omega)] at h1 h2
      rw [← e2] at h2
      exact h.2 _ c x h1 h2
def spliceV (cs : List AV) (off : Nat) (ds : List AV) : List AV := cs.take off ++ ds ++ cs.drop (off + ds.length)
def aFillV (place : Nat → Option (Nat × Nat)) : List AV → List (Nat × AV) → Option (List AV)
  | cs, [] => some cs
  | cs, (i, v) :: r =>
    match place i, avCells v with
    | some (off, size), some ds => if Nat.beq ds.length size && Nat.ble (off + ds.length) cs.length then aFillV place (spliceV cs off ds) r else none
    | _, _ => none
theorem aFillV_ok {X : Mem} {place : Nat → Option (Nat × Nat)} : ∀ {ps : List (Nat × AV)} {qs : List (Nat × Value)} {cs ds : List AV} {xs : Array Value}, aFillV place cs ps = some ds → Pairs X ps qs → Reps X cs xs.toList → (∀ u ∈ xs.toList, u.oneCell' = true) →
    ∃ ys : Array Value, Instr.fill place xs qs = some ys ∧ Reps X ds ys.toList ∧ ∀ u ∈ ys.toList, u.oneCell' = true
  | [], qs, cs, ds, xs, h, hp, hr, ho => by
    simp only [aFillV, Option.some.injEq] at h
    subst h
    cases qs with
    | nil => exact ⟨xs, rfl, hr, ho⟩
    | cons => have := hp.1; simp at this
  | (i, v) :: r, qs, cs, ds, xs, h, hp, hr, ho => by
    cases qs with
    | nil => have := hp.1; simp at this
    | cons q qs =>
      obtain ⟨j, y⟩ := q
      obtain ⟨e, hv⟩ := hp.2 0 _ _ rfl rfl
      simp only at e hv
      subst e
      unfold aFillV at h
      split at h
      · rename_i off size es h1 h2
        split at h
        · rename_i hc
          simp only [Bool.and_eq_true, Nat.ble_eq] at hc
          replace hc := And.intro (Nat.eq_of_beq_eq_true hc.1) hc.2
          obtain ⟨hys, hyo⟩ := avCells_rep h2 hv
          have hlen : y.cells.size = es.length := by have := hys.1; simp at this; exact this.symm
          have hxl : xs.size = cs.length := by have := hr.1; simp at this; exact this.symm
          have hfold : ((y.cells.zipIdx.foldl (fun cs (c, j) => cs.setIfInBounds (off + j) c) xs)).toList = xs.toList.take off ++ y.cells.toList ++ xs.toList.drop (off + y.cells.toList.length) := by
            rw [← Array.foldl_toList, Array.toList_zipIdx]
            have := foldl_set off y.cells.toList 0 xs (by simp; omega)
            simpa using this
          obtain ⟨ys, h3, h4⟩ := aFillV_ok (xs := y.cells.zipIdx.foldl (fun cs (c, j) => cs.setIfInBounds (off + j) c) xs) h ⟨by simpa using hp.1, fun k p q h5 h6 => hp.2 (k + 1) p q (by simpa using h5) (by simpa using h6)⟩ (by rw [hfold]; exact reps_splice hr hys hc.2) (by
            rw [hfold]
            intro u hu
            rw [List.mem_append, List.mem_append] at hu
            rcases hu with (hu | hu) | hu
            · exact ho u (List.mem_of_mem_take hu)
            · exact hyo u hu
            · exact ho u (List.mem_of_mem_drop hu))
          refine ⟨ys, ?_, h4⟩
          unfold Instr.fill
          simp only [h1]
          rw [if_neg (by rw [hlen, hxl, hc.1]; simp only [ne_eq, not_true_eq_false, gt_iff_lt, Bool.or_eq_true, decide_eq_true_eq, false_or, Nat.not_lt]; omega)]
          exact h3
        · cases h
      · cases h
def aBuildV (P : Program) (t : TypeId) (parts : List (Nat × AV)) : Option AV :=
  match P.underlying t, tzero P t with
  | some (.struct fs), some cs => match placesOf P fs.toList with
    | some places => (aFillV (places[·]?) (cs.map .c) parts).map .strc
    | none => none
  | _, _ => none
theorem aBuildV_ok {P : Program} {X : Mem} {w : World} {t : TypeId} {ps : List (Nat × AV)} {qs : Array (Nat × Value)} {c : AV} (h : aBuildV P t ps = some c) (hp : Pairs X ps qs.toList) : Yl P X w (Instr.build t qs) c := by
  unfold aBuildV at h
  split at h
  · rename_i fs cs ht hc
    obtain ⟨i, z, hi, hz, hc⟩ := tzero_spec hc
    split at h
    · rename_i places hpl
      simp only [Option.map_eq_some_iff] at h
      obtain ⟨ds, h1, rfl⟩ := h
      have hzr := cvsOf_rep (C := X.cell) hc
      obtain ⟨ys, h2, h3, h4⟩ := aFillV_ok (xs := z.cells) h1 hp (reps_c hzr) (fun u hu => by
        obtain ⟨i, hi, rfl⟩ := List.mem_iff_getElem.1 hu
        have h2 := hzr.1
        exact (hzr.2 i _ _ (List.getElem?_eq_getElem (h2 ▸ hi)) (List.getElem?_eq_getElem hi)).one)
      refine ⟨.agg ys, .strc h3.1 h3.2 h4, fun w' _ => ?_⟩
      have hm := run_places hpl w'
      have hm2 : (fs.mapM fun f => do pure (f.offset, ← sizeOf f.type) : Sem (Array (Nat × Nat))).run P w' = .ok places.toArray w' := by
        rw [Array.mapM_eq_mapM_toList]
        simp only [Sem.run_map, hm, Result.andThen]
      have e : (fun (x : Nat) => places[x]?) = (fun (x : Nat) => places.toArray[x]?) := by funext x; simp
      rw [e] at h2
      simp only [Instr.build, Sem.run_bind, zeroValue, typeInfo, run_program, Result.andThen_ok, hi, Sem.run_pure, hz, run_under ht, hm2, h2]
    · cases h
  · cases h
def orBuild (a b : Option AV) : Option AV := match a with
  | some c => some c
  | none => b
end Go.Vs.Ab
