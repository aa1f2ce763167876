/-
  Operations on abstract values that change nothing. No program in sight.
-/
import Derived.Test.YtinbfakpjnnagaaDoorDNAa
namespace Go.Vs.Ab
open Go.RowKit
def opd (fr : List (Nat × AV)) : Operand → Option AV
  | .tmp t => find fr t
  | .const v => avOf v
  | .func f => some (.fn (.func f) [] [])
  | .global _ => none
theorem opd_rep {X : Mem} {nt : Nat} {fr : List (Nat × AV)} {a : Act} (h : FR X nt fr a) {x : Operand} {c : AV} (hx : opd fr x = some c) : Rep X c (a.eval x) := by
  cases x with
  | tmp t =>
    obtain ⟨y, h1, h2⟩ := h.slot t c hx
    simp only [Act.eval, Array.getD_eq_getD_getElem?, h1, Option.getD_some]
    exact h2
  | const v => exact avOf_rep hx
  | func f =>
    simp only [opd, Option.some.injEq] at hx
    subst hx
    exact .fn rfl (fun i c x h => by cases h) rfl (fun i c x h => by cases h)
  | global g => cases hx
def opdV (fr : List (Nat × AV)) : Operand → Option Value
  | .const v => some v
  | .tmp t => match find fr t with
    | some c => c.val
    | none => none
  | .func _ => none
  | .global _ => none
theorem opdV_eq {X : Mem} {nt : Nat} {fr : List (Nat × AV)} {a : Act} (h : FR X nt fr a) {x : Operand} {y : Value} (hx : opdV fr x = some y) : a.eval x = y := by
  cases x with
  | const v => exact Option.some.inj hx
  | tmp t =>
    simp only [opdV] at hx
    split at hx
    · rename_i c hc
      exact val_rep hx (opd_rep h (x := .tmp t) hc)
    · cases hx
  | func f => cases hx
  | global g => cases hx
structure Ag (X : Mem) (w w' : World) : Prop where
  cell : ∀ b o x, X.cell b o = some x → w'.cell? ⟨b, o, none⟩ = some x
  loc : ∀ i β, X.loc i = some β → w'.heap[β]? = w.heap[β]?
def Yl (P : Program) (X : Mem) (w : World) (s : Sem Value) (c : AV) : Prop := ∃ V, Rep X c V ∧ ∀ w', Ag X w w' → s.run P w' = .ok V w'
theorem yl_pure {P : Program} {X : Mem} {w : World} {s : Sem Value} {v : Value} {c : AV} (h : pureVal P s = some v) (hc : avOf1 v = some c) : Yl P X w s c := ⟨v, avOf1_rep hc, fun w' _ => pureVal_run h w'⟩
def aggD : TypeDesc → Bool
  | .struct _ | .array .. => true
  | _ => false
theorem run_isAgg {P : Program} {t : TypeId} {d : TypeDesc} (h : P.underlying t = some d) (w : World) : (isAgg t).run P w = .ok (aggD d) w := by
  cases d <;> simp [isAgg, underlying, h, aggD]
theorem run_under {P : Program} {t : TypeId} {d : TypeDesc} (h : P.underlying t = some d) (w : World) : (underlying t).run P w = .ok d w := by simp [underlying, h]
theorem run_size {P : Program} {t : TypeId} {i : TypeInfo} (h : P.info? t = some i) (w : World) : (sizeOf t).run P w = .ok i.size w := by simp [sizeOf, typeInfo, h]
def tsz (P : Program) (t : TypeId) : Option Nat := (P.info? t).map (·.size)
theorem tsz_spec {P : Program} {t : TypeId} {s : Nat} (h : tsz P t = some s) : ∃ i, P.info? t = some i ∧ i.size = s := by
  simpa [tsz, Option.map_eq_some_iff] using h
def tzero (P : Program) (t : TypeId) : Option (List CV) := match P.info? t with
  | some i => match i.zero with
    | some z => cvsOf z.cells.toList
    | none => none
  | none => none
theorem tzero_spec {P : Program} {t : TypeId} {cs : List CV} (h : tzero P t = some cs) : ∃ i z, P.info? t = some i ∧ i.zero = some z ∧ cvsOf z.cells.toList = some cs := by
  unfold tzero at h
  split at h
  · rename_i i hi
    split at h
    · rename_i z hz
      exact ⟨i, z, hi, hz, h⟩
    · cases h
  · cases h
/-! ### loads -/
def clean : AV → Option CV
  | .c x => some x
  | .own _ n cs => some (.sl false n cs)
  | _ => none
def cleans : List AV → Option (List CV)
  | [] => some []
  | x :: r => match clean x, cleans r with
    | some c, some cs => some (c :: cs)
    | _, _ => none
theorem clean_rep {X : Mem} {c : AV} {d : CV} {x : Value} (h : clean c = some d) (hr : Rep X c x) : RepC X.cell d x := by
  cases c <;> simp only [clean, Option.some.injEq] at h <;> first | cases h | skip
  · cases hr; assumption
  · exact hr.ro
theorem cleans_rep {X : Mem} : ∀ {cs : List AV} {ds : List CV} {xs : List Value}, cleans cs = some ds → Reps X cs xs → RepCs X.cell ds xs
  | [], ds, xs, h, hr => by
    simp [cleans] at h
    subst h
    have := hr.1
    exact ⟨this, fun i c x h => by cases h⟩
  | x :: r, ds, xs, h, hr => by
    unfold cleans at h
    split at h
    · rename_i c es h1 h2
      injection h with h
      subst h
      cases xs with
      | nil => have := hr.1; simp at this
      | cons y ys =>
        have ih := cleans_rep (xs := ys) h2 ⟨by simpa using hr.1, fun i c x h2 h3 => hr.2 (i + 1) c x (by simpa using h2) (by simpa using h3)⟩
        refine ⟨by simp [ih.1], fun i e z h3 h4 => ?_⟩
        cases i with
        | zero => simp at h3 h4; subst h3 h4; exact clean_rep h1 (hr.2 0 _ _ rfl rfl)
        | succ i => exact ih.2 i e z (by simpa using h3) (by simpa using h4)
    · cases h
theorem RepCs.drop {C : Nat → Nat → Option Value} {cs : List CV} {xs : List Value} (h : RepCs C cs xs) (n : Nat) : RepCs C (cs.drop n) (xs.drop n) :=
  ⟨by simp [h.1], fun i c x h1 h2 => h.2 (n + i) c x (by simpa using h1) (by simpa using h2)⟩
theorem RepCs.take {C : Nat → Nat → Option Value} {cs : List CV} {xs : List Value} (h : RepCs C cs xs) (n : Nat) : RepCs C (cs.take n) (xs.take n) :=
  ⟨by simp [h.1], fun i c x h1 h2 => by
    rw [List.getElem?_take] at h1 h2
    split at h1
    · rename_i hi
      rw [if_pos hi] at h2
      exact h.2 i c x h1 h2
    · cases h1⟩
theorem Reps.drop {X : Mem} {cs : List AV} {xs : List Value} (h : Reps X cs xs) (n : Nat) : Reps X (cs.drop n) (xs.drop n) :=
  ⟨by simp [h.1], fun i c x h1 h2 => h.2 (n + i) c x (by simpa using h1) (by simpa using h2)⟩
theorem Reps.take {X : Mem} {cs : List AV} {xs : List Value} (h : Reps X cs xs) (n : Nat) : Reps X (cs.take n) (xs.take n) :=
  ⟨by simp [h.1], fun i c x h1 h2 => by
    rw [List.getElem?_take] at h1 h2
    split at h1
    · rename_i hi
      rw [if_pos hi] at h2
      exact h.2 i c x h1 h2
    · cases h1⟩
theorem At.drop {C : Nat → Nat → Option Value} {b o : Nat} {xs : List Value} (h : At C (some ⟨b, o, none⟩) xs) (n : Nat) : At C (some ⟨b, o + n, none⟩) (xs.drop n) := fun j x hx => by
  obtain ⟨b', o', e, h1⟩ := h (n + j) x (by simpa using hx)
  injection e with e
  injection e with e1 e2
  subst e1 e2
  exact ⟨_, _, rfl, by rw [Nat.add_assoc]; exact h1⟩
theorem At.take {C : Nat → Nat → Option Value} {a : Option Addr} {xs : List Value} (h : At C a xs) (n : Nat) : At C a (xs.take n) := fun j x hx => by
  rw [List.getElem?_take] at hx
  split at hx
  · exact h j x hx
  · cases hx
theorem At.some {C : Nat → Nat → Option Value} {a : Option Addr} {xs : List Value} (h : At C a xs) (hl : 0 < xs.length) : ∃ b o, a = Option.some ⟨b, o, none⟩ := by
  obtain ⟨b, o, e, _⟩ := h 0 xs[0] (by simp [hl])
  exact ⟨b, o, e⟩
theorem RepCs.get {C : Nat → Nat → Option Value} {cs : List CV} {xs : List Value} (h : RepCs C cs xs) {i : Nat} {c : CV} (hc : cs[i]? = some c) : ∃ x, xs[i]? = some x ∧ RepC C c x := by
  have hi := (List.getElem?_eq_some_iff.1 hc).1
  have : i < xs.length := by rw [← h.1]; exact hi
  exact ⟨xs[i], by simp [this], h.2 i c xs[i] hc (by simp [this])⟩
theorem Reps.get {X : Mem} {cs : List AV} {xs : List Value} (h : Reps X cs xs) {i : Nat} {c : AV} (hc : cs[i]? = some c) : ∃ x, xs[i]? = some x ∧ Rep X c x := by
  have hi := (List.getElem?_eq_some_iff.1 hc).1
  have : i < xs.length := by rw [← h.1]; exact hi
  exact ⟨xs[i], by simp [this], h.2 i c xs[i] hc (by simp [this])⟩
def aLoad (P : Program) (m : Mm) (t : TypeId) (p : AV) : Option AV :=
  match P.underlying t, tsz P t with
  | some d, some i =>
    match p with
    | .ptr b off =>
      match m.hp[b]? with
      | some blk =>
        if plainB blk.cs then
          if aggD d then
            if Nat.ble (off + i) blk.cs.length then (cleans ((blk.cs.drop off).take i)).map .agg else none
          else blk.cs[off]?
        else none
      | none => none
    | .cptr cs =>
      if aggD d then
        if Nat.ble i cs.length then some (.agg (cs.take i)) else none
      else (cs[0]?).map .c
    | _ => none
  | _, _ => none
theorem load_agg {P : Program} {t : TypeId} {d : TypeDesc} {i : TypeInfo} (hd : P.underlying t = some d) (hi : P.info? t = some i) (ha : aggD d = true) {b o : Nat} {xs : List Value} (hl : xs.length = i.size) {w : World}
    (hx : ∀ j x, xs[j]? = some x → w.cell? ⟨b, o + j, none⟩ = some x) : (Instr.loadAt t (.pointer (some ⟨b, o, none⟩))).run P w = .ok (.agg xs.toArray) w := by
  have := run_loadCells_list (P := P) w ⟨b, o, none⟩ xs (fun j v hv => by rw [add_none]; exact hx j v hv)
  rw [hl] at this
  simp [Instr.loadAt, Instr.sureAddr, loadVar, run_isAgg hd, ha, run_size hi, this]
theorem load_one {P : Program} {t : TypeId} {d : TypeDesc} (hd : P.underlying t = some d) (ha : aggD d = false) {a : Addr} {x : Value} {w : World}
    (hx : w.cell? a = some x) : (Instr.loadAt t (.pointer (some a))).run P w = .ok x w := by
  simp [Instr.loadAt, Instr.sureAddr, loadVar, run_isAgg hd, ha, hx]
theorem aLoad_ok {P : Program} {X : Mem} {W0 w : World} {m : Mm} (M : MR X W0 m w) {t : TypeId} {p c : AV} {q : Value} (h : aLoad P m t p = some c) (hp : Rep X p q) : Yl P X w (Instr.loadAt t q) c := by
  unfold aLoad at h
  split at h
  · rename_i d i hd hi
    have q0 := tsz_spec hi
    clear hi
    obtain ⟨i, hi, rfl⟩ := q0
    split at h
    · rename_i b off
      cases hp with
      | ptr hb =>
        rename_i β
        split at h
        · rename_i blk hblk
          split at h
          case isFalse => cases h
          rename_i hpl
          obtain ⟨β', h1, _, _, hB⟩ := M.locs b blk hblk
          obtain ⟨t', arr, h2, hal, h3, _⟩ := hB.plain hpl
          rw [hb] at h1
          injection h1 with h1
          subst h1
          have cellA : ∀ w', Ag X w w' → ∀ j x, (arr.toList.take blk.cs.length)[j]? = some x → w'.cell? ⟨β, j, none⟩ = some x := fun w' A j x hx => by
            have := A.loc b β hb
            rw [h2] at this
            rw [List.getElem?_take] at hx
            split at hx
            · exact cell_of_heap this (by simpa using hx)
            · cases hx
          generalize arr.toList.take blk.cs.length = ys at *
          split at h
          · rename_i ha
            split at h
            · rename_i hle
              simp only [Nat.ble_eq] at hle
              simp only [Option.map_eq_some_iff] at h
              obtain ⟨ds, h4, rfl⟩ := h
              have h5 := cleans_rep h4 ((h3.drop off).take i.size)
              have hl : ((ys.drop off).take i.size).length = i.size := by
                rw [List.length_take, List.length_drop, ← h3.1]
                omega
              refine ⟨.agg ((ys.drop off).take i.size).toArray, .agg (by simpa using h5), fun w' A => load_agg hd hi ha hl (fun j x hx => ?_)⟩
              rw [List.getElem?_take] at hx
              split at hx
              · exact cellA w' A _ x (by simpa using hx)
              · cases hx
            · cases h
          · rename_i ha
            obtain ⟨x, h5, h6⟩ := h3.get h
            exact ⟨x, h6, fun w' A => load_one hd (by simpa using ha) (cellA w' A _ x h5)⟩
        · cases h
    · rename_i cs
      cases hp with
      | cptr hr hx =>
        rename_i xs b o
        have cellA : ∀ w', Ag X w w' → ∀ j x, xs[j]? = some x → w'.cell? ⟨b, o + j, none⟩ = some x := fun w' A j x h5 => by
          obtain ⟨b', o', e, h6⟩ := hx j x h5
          injection e with e
          injection e with e1 e2
          subst e1 e2
          exact A.cell _ _ _ h6
        split at h
        · rename_i ha
          split at h
          · rename_i hle
            simp only [Nat.ble_eq] at hle
            injection h with h
            subst h
            refine ⟨.agg (xs.take i.size).toArray, .agg (by simpa using hr.take i.size), fun w' A => load_agg hd hi ha (by rw [List.length_take, ← hr.1]; omega) (fun j x h5 => ?_)⟩
            rw [List.getElem?_take] at h5
            split at h5
            · exact cellA w' A j x h5
            · cases h5
          · cases h
        · rename_i ha
          simp only [Option.map_eq_some_iff] at h
          obtain ⟨e, h4, rfl⟩ := h
          obtain ⟨x, h5, h6⟩ := hr.get h4
          exact ⟨x, .c h6, fun w' A => load_one hd (by simpa using ha) (by simpa using cellA w' A 0 x h5)⟩
    · cases h
  · cases h
/-! ### addresses -/
def aFieldAddr (P : Program) (s f : Nat) (p : AV) : Option AV :=
  match P.underlying s with
  | some (.struct fs) =>
    match fs[f]? with
    | some fd =>
      match tsz P fd.type with
      | some i => if Nat.beq i 0 then none else
        match p with
        | .ptr b off => some (.ptr b (off + fd.offset))
        | .cptr cs => some (.cptr (cs.drop fd.offset))
        | _ => none
      | none => none
    | none => none
  | _ => none
theorem run_fieldAt {P : Program} {s f : Nat} {fs : Array Field} {fd : Field} {i : TypeInfo} (h1 : P.underlying s = some (.struct fs)) (h2 : fs[f]? = some fd) (h3 : P.info? fd.type = some i) (h4 : i.size ≠ 0) (b o : Nat) (w : World) :
    (Instr.fieldAt s (.pointer (some ⟨b, o, none⟩)) f).run P w = .ok (.pointer (some ⟨b, o + fd.offset, none⟩)) w := by
  simp [Instr.fieldAt, run_under h1, h2, Instr.sureAddr, fieldPlace, run_size h3, h4, add_none]
theorem aFieldAddr_ok {P : Program} {X : Mem} {w : World} {s f : Nat} {p c : AV} {q : Value} (h : aFieldAddr P s f p = some c) (hp : Rep X p q) : Yl P X w (Instr.fieldAt s q f) c := by
  unfold aFieldAddr at h
  split at h
  · rename_i fs h1
    split at h
    · rename_i fd h2
      split at h
      · rename_i i h3
        have q0 := tsz_spec h3
        clear h3
        obtain ⟨i, h3, rfl⟩ := q0
        split at h
        · cases h
        · rename_i h4
          have h4 : i.size ≠ 0 := by simpa using h4
          split at h
          · injection h with h
            subst h
            cases hp with
            | ptr hb => exact ⟨_, .ptr hb, fun w' _ => run_fieldAt h1 h2 h3 h4 _ _ w'⟩
          · injection h with h
            subst h
            cases hp with
            | cptr hr hx => exact ⟨_, .cptr (hr.drop _) (hx.drop _), fun w' _ => run_fieldAt h1 h2 h3 h4 _ _ w'⟩
          · cases h
      · cases h
    · cases h
  · cases h
def intV : AV → Option Int
  | .c (.v (.int _ i)) => some i
  | _ => none
theorem intV_rep {X : Mem} {c : AV} {i : Int} {x : Value} (h : intV c = some i) (hr : Rep X c x) : ∃ k, x = .int k i := by
  unfold intV at h
  split at h
  · injection h with h
    subst h
    cases hr with
    | c hr => cases hr; exact ⟨_, rfl⟩
  · cases h
def slV : AV → Option (Nat × List CV)
  | .c (.sl _ n cs) => some (n, cs)
  | .own _ n cs => some (n, cs)
  | _ => none
theorem slV_rep {X : Mem} {c : AV} {n : Nat} {cs : List CV} {x : Value} (h : slV c = some (n, cs)) (hr : Rep X c x) :
    ∃ a cap xs, x = .slice a n cap ∧ RepCs X.cell cs xs ∧ n ≤ cap ∧ (cap ≤ maxLen ∧ (a = none → cap = 0)) ∧ At X.cell a xs := by
  unfold slV at h
  split at h
  · simp only [Option.some.injEq, Prod.mk.injEq] at h
    obtain ⟨rfl, rfl⟩ := h
    cases hr with
    | c hr => cases hr with
      | sl hl h1 hn hc he hx => exact ⟨_, _, _, rfl, ⟨hl, h1⟩, hn, hc, hx⟩
  · simp only [Option.some.injEq, Prod.mk.injEq] at h
    obtain ⟨rfl, rfl⟩ := h
    cases hr with
    | own h hn hc hx ht => exact ⟨_, _, _, rfl, h, hn, hc, hx⟩
  · cases h
def aIndexAddr (P : Program) (t : TypeId) (p ix : AV) : Option AV :=
  match intV ix with
  | some i =>
    match P.underlying t with
    | some (.slice e) =>
      match slV p, tsz P e with
      | some (n, cs), some inf =>
        if Int.decLt i 0 |>.decide then none else
        if Nat.blt i.toNat n && Nat.blt 0 inf && Nat.ble (i.toNat * inf + inf) cs.length then some (.cptr (cs.drop (i.toNat * inf))) else none
      | _, _ => none
    | some (.array n e) =>
      match tsz P e with
      | some inf =>
        if Int.decLt i 0 |>.decide then none else
        if Nat.blt i.toNat n then
          match p with
          | .ptr b off => some (.ptr b (off + i.toNat * inf))
          | .cptr cs => some (.cptr (cs.drop (i.toNat * inf)))
          | _ => none
        else none
      | none => none
    | _ => none
  | none => none
theorem aIndexAddr_ok {P : Program} {X : Mem} {w : World} {t : TypeId} {p ix c : AV} {q j : Value} (h : aIndexAddr P t p ix = some c) (hp : Rep X p q) (hj : Rep X ix j) : Yl P X w (Instr.indexAt t q j) c := by
  unfold aIndexAddr at h
  split at h
  · rename_i i hi
    obtain ⟨k, rfl⟩ := intV_rep hi hj
    split at h
    · rename_i e ht
      split at h
      · rename_i n cs inf h1 h2
        have q0 := tsz_spec h2
        clear h2
        obtain ⟨inf, h2, rfl⟩ := q0
        obtain ⟨a, cap, xs, rfl, hr, hn, hc, hx⟩ := slV_rep h1 hp
        split at h
        · cases h
        · rename_i hi0
          split at h
          · rename_i hb
            simp only [Bool.and_eq_true, Nat.blt_eq, Nat.ble_eq] at hb
            injection h with h
            subst h
            obtain ⟨b, o, rfl⟩ := hx.some (by rw [← hr.1]; omega)
            have hi0 : 0 ≤ i := by simpa using hi0
            refine ⟨_, .cptr (hr.drop _) (hx.drop _), fun w' _ => ?_⟩
            simp [Instr.indexAt, asIntOf, run_under ht, run_size h2, add_none, hi0, show i < (n : Int) by omega]
          · cases h
      · cases h
    · rename_i n e ht
      split at h
      · rename_i inf h2
        have q0 := tsz_spec h2
        clear h2
        obtain ⟨inf, h2, rfl⟩ := q0
        split at h
        · cases h
        · rename_i hi0
          have hi0 : 0 ≤ i := by simpa using hi0
          split at h
          · rename_i hb
            simp only [Nat.blt_eq] at hb
            split at h
            · injection h with h
              subst h
              cases hp with
              | ptr hb' =>
                refine ⟨_, .ptr hb', fun w' _ => ?_⟩
                simp [Instr.indexAt, asIntOf, run_under ht, run_size h2, add_none, hi0, Instr.sureAddr, show i < (n : Int) by omega]
            · injection h with h
              subst h
              cases hp with
              | cptr hr hx =>
                refine ⟨_, .cptr (hr.drop _) (hx.drop _), fun w' _ => ?_⟩
                simp [Instr.indexAt, asIntOf, run_under ht, run_size h2, add_none, hi0, Instr.sureAddr, show i < (n : Int) by omega]
            · cases h
          · cases h
      · cases h
    · cases h
  · cases h
end Go.Vs.Ab
