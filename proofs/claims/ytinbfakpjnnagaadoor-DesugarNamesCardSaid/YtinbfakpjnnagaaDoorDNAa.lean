/-
  Abstract values, abstract memory, and what it means that a frame and a world are as they say. No program in sight.
-/
import Derived.Test.YtinbfakpjnnagaaDoorDNSeq
import Derived.Test.YtinbfakpjnnagaaDoorDNRow
namespace Go.Vs.Ab
open Go.RowKit
inductive CV where
  | v (x : Value)
  | sl (ex : Bool) (n : Nat) (cs : List CV)
inductive AV where
  | c (x : CV)
  | agg (cs : List CV)
  | tup (vs : List AV)
  | own (k n : Nat) (cs : List CV)
  | ptr (b off : Nat)
  | cptr (cs : List CV)
  | fn (f : Fn) (first captured : List AV)
  /-- A slice over a local block: from element lo on, n elements of k cells. -/
  | lsl (b lo n k : Nat)
  /-- A map that a local block is. -/
  | mapp (b : Nat)
  /-- A value in an interface. -/
  | ifc (t : TypeId) (v : AV)
  /-- A struct whose cells may lead anywhere. -/
  | strc (vs : List AV)
  /-- The contents of a block that is a map: its entries. No value. -/
  | ent (es : List (Value × Value))
  /-- The contents of a block that is a strings.Builder (its type; whether it was written on): its bytes. No value. -/
  | bld (t : TypeId) (u : Bool) (c : AV)
  /-- The contents of a block of bytes (its type; the first ones). No value. -/
  | byt (t : TypeId) (o : ByteArray)
  /-- The contents of a block of which nothing is known any more. No value. -/
  | dead
instance : Inhabited CV := ⟨.v .nilFunc⟩
instance : Inhabited AV := ⟨.c default⟩
structure Tok where
  g : Nat
  n : Nat
  cap : Nat
  e : TypeId
  size : Nat
structure Mem where
  cell : Nat → Nat → Option Value
  loc : Nat → Option Nat
  own : Nat → Option Tok
  room : Nat → Nat
inductive RepC (C : Nat → Nat → Option Value) : CV → Value → Prop
  | v {x : Value} (h : x.oneCell' = true) : RepC C (.v x) x
  | sl {ex : Bool} {n : Nat} {cs : List CV} {xs : List Value} {a : Option Addr} {cap : Nat} (hl : cs.length = xs.length) (h : ∀ (i : Nat) (c : CV) (x : Value), cs[i]? = some c → xs[i]? = some x → RepC C c x)
      (hn : n ≤ cap) (hc : cap ≤ maxLen ∧ (a = none → cap = 0)) (he : ex = true → cap = n) (hx : ∀ (j : Nat) (x : Value), xs[j]? = some x → ∃ b o, a = some ⟨b, o, none⟩ ∧ C b (o + j) = some x) : RepC C (.sl ex n cs) (.slice a n cap)
def RepCs (C : Nat → Nat → Option Value) (cs : List CV) (xs : List Value) : Prop := cs.length = xs.length ∧ ∀ (i : Nat) (c : CV) (x : Value), cs[i]? = some c → xs[i]? = some x → RepC C c x
def At (C : Nat → Nat → Option Value) (a : Option Addr) (xs : List Value) : Prop := ∀ (j : Nat) (x : Value), xs[j]? = some x → ∃ b o, a = some ⟨b, o, none⟩ ∧ C b (o + j) = some x
def TokOk (X : Mem) (k n : Nat) (a : Option Addr) (cap : Nat) : Prop := ∃ T, X.own k = some T ∧ n ≤ T.n ∧ (n = T.n → a = some ⟨T.g, 0, none⟩ ∧ cap = T.cap)
inductive Rep (X : Mem) : AV → Value → Prop
  | c {x : CV} {v : Value} (h : RepC X.cell x v) : Rep X (.c x) v
  | agg {cs : List CV} {xs : Array Value} (h : RepCs X.cell cs xs.toList) : Rep X (.agg cs) (.agg xs)
  | tup {vs : List AV} {xs : Array Value} (hl : vs.length = xs.toList.length) (h : ∀ (i : Nat) (c : AV) (x : Value), vs[i]? = some c → xs.toList[i]? = some x → Rep X c x) : Rep X (.tup vs) (.tuple xs)
  | own {k n : Nat} {cs : List CV} {xs : List Value} {a : Option Addr} {cap : Nat} (h : RepCs X.cell cs xs) (hn : n ≤ cap) (hc : cap ≤ maxLen ∧ (a = none → cap = 0)) (hx : At X.cell a xs) (ht : TokOk X k n a cap) : Rep X (.own k n cs) (.slice a n cap)
  | ptr {b off β : Nat} (h : X.loc b = some β) : Rep X (.ptr b off) (.pointer (some ⟨β, off, none⟩))
  | cptr {cs : List CV} {xs : List Value} {b o : Nat} (h : RepCs X.cell cs xs) (hx : At X.cell (some ⟨b, o, none⟩) xs) : Rep X (.cptr cs) (.pointer (some ⟨b, o, none⟩))
  | fn {f : Fn} {first captured : List AV} {ys zs : Array Value} (h1 : first.length = ys.toList.length) (h2 : ∀ (i : Nat) (c : AV) (x : Value), first[i]? = some c → ys.toList[i]? = some x → Rep X c x)
      (h3 : captured.length = zs.toList.length) (h4 : ∀ (i : Nat) (c : AV) (x : Value), captured[i]? = some c → zs.toList[i]? = some x → Rep X c x) : Rep X (.fn f first captured) (.func f ys zs)
  | lsl {b lo n k β o cap : Nat} (h : X.loc b = some β) (ho : 0 < cap → o = lo * k) (hn : n ≤ cap) (hc : cap ≤ maxLen) (hr : o + cap * k ≤ X.room β) : Rep X (.lsl b lo n k) (.slice (some ⟨β, o, none⟩) n cap)
  | mapp {b β : Nat} (h : X.loc b = some β) : Rep X (.mapp b) (.map (some β))
  | ifc {t : TypeId} {c : AV} {x : Value} (h : Rep X c x) : Rep X (.ifc t c) (.iface t x)
  | strc {vs : List AV} {xs : Array Value} (hl : vs.length = xs.toList.length) (h : ∀ (i : Nat) (c : AV) (x : Value), vs[i]? = some c → xs.toList[i]? = some x → Rep X c x) (h1 : ∀ u ∈ xs.toList, u.oneCell' = true) : Rep X (.strc vs) (.agg xs)
def Reps (X : Mem) (vs : List AV) (xs : List Value) : Prop := vs.length = xs.length ∧ ∀ (i : Nat) (c : AV) (x : Value), vs[i]? = some c → xs[i]? = some x → Rep X c x
structure Mem.Le (base : Nat) (X Y : Mem) : Prop where
  cell : ∀ b o x, X.cell b o = some x → Y.cell b o = some x
  old : ∀ b o x, b < base → Y.cell b o = some x → X.cell b o = some x
  loc : ∀ i β, X.loc i = some β → Y.loc i = some β
  own : ∀ k T, X.own k = some T → ∃ T', Y.own k = some T' ∧ (T' = T ∨ T.n < T'.n)
  room : ∀ β, X.room β ≤ Y.room β
theorem Mem.Le.refl (base : Nat) (X : Mem) : X.Le base X := ⟨fun _ _ _ h => h, fun _ _ _ _ h => h, fun _ _ h => h, fun _ T h => ⟨T, h, Or.inl rfl⟩, fun _ => Nat.le_refl _⟩
theorem Mem.Le.trans {base : Nat} {X Y Z : Mem} (h : X.Le base Y) (k : Y.Le base Z) : X.Le base Z :=
  ⟨fun b o x hx => k.cell b o x (h.cell b o x hx), fun b o x hb hx => h.old b o x hb (k.old b o x hb hx), fun i β hi => k.loc i β (h.loc i β hi), fun i T hT => by
    obtain ⟨T1, h1, h2⟩ := h.own i T hT
    obtain ⟨T2, h3, h4⟩ := k.own i T1 h1
    refine ⟨T2, h3, ?_⟩
    rcases h2 with rfl | h2
    · exact h4
    · rcases h4 with rfl | h4
      · exact Or.inr h2
      · exact Or.inr (Nat.lt_trans h2 h4), fun β => Nat.le_trans (h.room β) (k.room β)⟩
theorem RepC.mono {C D : Nat → Nat → Option Value} (hC : ∀ b o x, C b o = some x → D b o = some x) {c : CV} {x : Value} (h : RepC C c x) : RepC D c x := by
  induction h with
  | v h => exact .v h
  | sl hl _ hn hc he hx ih => exact .sl hl (fun i c x h1 h2 => ih i c x h1 h2) hn hc he (fun j x h => by obtain ⟨b, o, h1, h2⟩ := hx j x h; exact ⟨b, o, h1, hC _ _ _ h2⟩)
theorem RepCs.mono {C D : Nat → Nat → Option Value} (hC : ∀ b o x, C b o = some x → D b o = some x) {c : List CV} {x : List Value} (h : RepCs C c x) : RepCs D c x := ⟨h.1, fun i c x h1 h2 => (h.2 i c x h1 h2).mono hC⟩
theorem At.mono {C D : Nat → Nat → Option Value} (hC : ∀ b o x, C b o = some x → D b o = some x) {a : Option Addr} {xs : List Value} (h : At C a xs) : At D a xs :=
  fun j x hx => by obtain ⟨b, o, h1, h2⟩ := h j x hx; exact ⟨b, o, h1, hC _ _ _ h2⟩
theorem Rep.mono {base : Nat} {X Y : Mem} (hXY : X.Le base Y) {c : AV} {x : Value} (h : Rep X c x) : Rep Y c x := by
  induction h with
  | c h => exact .c (h.mono hXY.cell)
  | agg h => exact .agg (h.mono hXY.cell)
  | tup hl _ ih => exact .tup hl ih
  | own h hn hc hx ht =>
    refine .own (h.mono hXY.cell) hn hc (hx.mono hXY.cell) ?_
    obtain ⟨T, h1, h2, h3⟩ := ht
    obtain ⟨T', h4, h5⟩ := hXY.own _ T h1
    refine ⟨T', h4, ?_, fun e => ?_⟩
    · rcases h5 with rfl | h5
      · exact h2
      · omega
    · rcases h5 with rfl | h5
      · exact h3 e
      · omega
  | ptr h => exact .ptr (hXY.loc _ _ h)
  | cptr h hx => exact .cptr (h.mono hXY.cell) (hx.mono hXY.cell)
  | fn h1 _ h3 _ ih1 ih2 => exact .fn h1 ih1 h3 ih2
  | lsl h ho hn hc hr => exact .lsl (hXY.loc _ _ h) ho hn hc (Nat.le_trans hr (hXY.room _))
  | mapp h => exact .mapp (hXY.loc _ _ h)
  | ifc _ ih => exact .ifc ih
  | strc hl _ h1 ih => exact .strc hl ih h1
theorem Reps.mono {base : Nat} {X Y : Mem} (hXY : X.Le base Y) {c : List AV} {x : List Value} (h : Reps X c x) : Reps Y c x := ⟨h.1, fun i c x h1 h2 => (h.2 i c x h1 h2).mono hXY⟩
theorem RepC.one {C : Nat → Nat → Option Value} {c : CV} {x : Value} (h : RepC C c x) : x.oneCell' = true := by
  cases h with
  | v h => exact h
  | sl => rfl
theorem Rep.ro {X : Mem} {k n : Nat} {cs : List CV} {x : Value} (h : Rep X (.own k n cs) x) : RepC X.cell (.sl false n cs) x := by
  cases h with
  | own h hn hc hx ht => exact .sl h.1 h.2 hn hc (fun e => by cases e) hx
/-! ### memory -/
structure Blk where
  fz : Bool
  cs : List AV
structure Hw where
  n : Nat
  e : TypeId
  size : Nat
structure Mm where
  hp : List Blk
  hw : List Hw
structure MapIs (es : List (Value × Value)) (arr : Array MapEntry) (clock : Nat) : Prop where
  es : arr.toList.map (fun e => (e.key, e.val)) = es
  born : ∀ e ∈ arr.toList, e.born < clock
  uniq : arr.toList.Pairwise (fun a b => a.born ≠ b.born)
def bytV (o : ByteArray) : List Value := o.data.toList.map fun b => Value.int .u8 b.toNat
def bptr (u : Bool) (β : Nat) : Value := if u then .pointer (some ⟨β, 0, none⟩) else .pointer none
inductive BlkIs (X : Mem) (w : World) (β : Nat) (blk : Blk) : Prop
  | dead (h : blk.cs = [.dead])
  | ent {es : List (Value × Value)} {arr : Array MapEntry} {clock : Nat} (h : blk.cs = [.ent es]) (hw : w.heap[β]? = some (.map arr clock)) (hm : MapIs es arr clock) (hf : blk.fz = false) (hn : ∀ o, X.cell β o = none)
  | bld {t : TypeId} {u : Bool} {c : AV} {v : Value} (h : blk.cs = [.bld t u c]) (hw : w.heap[β]? = some (.cells #[bptr u β, v] t (0, 0))) (hv : Rep X c v) (hf : blk.fz = false) (hn : ∀ o, X.cell β o = none)
  | byt {t : TypeId} {o : ByteArray} {arr : Array Value} (h : blk.cs = [.byt t o]) (hw : w.heap[β]? = some (.cells arr t (0, 0))) (hl : o.size ≤ arr.size) (hr : arr.toList.take o.size = bytV o) (hf : blk.fz = false) (hn : ∀ o, X.cell β o = none)
  | cells {t : TypeId} {arr : Array Value} (hw : w.heap[β]? = some (.cells arr t (0, 0))) (hl : blk.cs.length ≤ arr.size) (hr : Reps X blk.cs (arr.toList.take blk.cs.length))
      (hz : blk.fz = true → ∀ o x, arr[o]? = some x → X.cell β o = some x) (hf : blk.fz = false → ∀ o, X.cell β o = none)
def Blk.isDead (b : Blk) : Prop := b.cs = [.dead]
def plain1 : AV → Bool
  | .ent _ => false
  | .dead => false
  | .bld _ _ _ => false
  | .byt _ _ => false
  | .c _ => true
  | .agg _ => true
  | .tup _ => true
  | .own _ _ _ => true
  | .ptr _ _ => true
  | .cptr _ => true
  | .fn _ _ _ => true
  | .lsl _ _ _ _ => true
  | .mapp _ => true
  | .ifc _ _ => true
  | .strc _ => true
def plainB : List AV → Bool
  | [] => true
  | c :: _ => plain1 c
theorem plain_alive {b : Blk} (h : plainB b.cs = true) : ¬ b.isDead := fun e => by
  rw [Blk.isDead] at e
  rw [e] at h
  cases h
theorem BlkIs.plain {X : Mem} {w : World} {β : Nat} {blk : Blk} (h : BlkIs X w β blk) (hp : plainB blk.cs = true) : ∃ t arr, w.heap[β]? = some (.cells arr t (0, 0)) ∧ blk.cs.length ≤ arr.size ∧ Reps X blk.cs (arr.toList.take blk.cs.length) ∧
    (blk.fz = true → ∀ o x, arr[o]? = some x → X.cell β o = some x) ∧ (blk.fz = false → ∀ o, X.cell β o = none) := by
  cases h with
  | dead h => rw [h] at hp; cases hp
  | ent h => rw [h] at hp; cases hp
  | bld h => rw [h] at hp; cases hp
  | byt h => rw [h] at hp; cases hp
  | cells h1 h2 h3 h4 h5 => exact ⟨_, _, h1, h2, h3, h4, h5⟩
theorem Reps.take_self {X : Mem} {cs : List AV} {xs : List Value} (h : Reps X cs xs) : xs.take cs.length = xs := List.take_of_length_le (by rw [h.1]; exact Nat.le_refl _)
theorem reps_take_get {X : Mem} {cs : List AV} {arr : Array Value} (h : Reps X cs (arr.toList.take cs.length)) {i : Nat} {c : AV} (hc : cs[i]? = some c) : ∃ x, arr[i]? = some x ∧ Rep X c x := by
  have hi := (List.getElem?_eq_some_iff.1 hc).1
  have hl : i < (arr.toList.take cs.length).length := by rw [← h.1]; exact hi
  refine ⟨(arr.toList.take cs.length)[i], ?_, h.2 i c _ hc (List.getElem?_eq_getElem hl)⟩
  rw [List.getElem_take, ← Array.getElem?_toList]
  exact List.getElem?_eq_getElem _
theorem BlkIs.move {base : Nat} {X Y : Mem} {w w' : World} {β : Nat} {blk : Blk} (h : BlkIs X w β blk) (hXY : X.Le base Y) (hw : ¬ blk.isDead → w'.heap[β]? = w.heap[β]?) (hc : ¬ blk.isDead → (∀ o, X.cell β o = none) → ∀ o, Y.cell β o = none) : BlkIs Y w' β blk := by
  cases h with
  | dead h => exact .dead h
  | ent h1 h2 h3 h4 h5 =>
    have hd : ¬ blk.isDead := fun e => by rw [Blk.isDead, h1] at e; simp at e
    exact .ent h1 (by rw [hw hd]; exact h2) h3 h4 (hc hd h5)
  | bld h1 h2 h3 h4 h5 =>
    have hd : ¬ blk.isDead := fun e => by rw [Blk.isDead, h1] at e; simp at e
    exact .bld h1 (by rw [hw hd]; exact h2) (h3.mono hXY) h4 (hc hd h5)
  | byt h1 h2 h3 h4 h5 h6 =>
    have hd : ¬ blk.isDead := fun e => by rw [Blk.isDead, h1] at e; simp at e
    exact .byt h1 (by rw [hw hd]; exact h2) h3 h4 h5 (hc hd h6)
  | cells h1 h2 h3 h4 h5 =>
    have hd : ¬ blk.isDead := fun e => by
      rw [Blk.isDead] at e
      rw [e] at h3
      have hl := h3.1
      cases hx : List.take [AV.dead].length (Array.toList ‹Array Value›) with
      | nil => rw [hx] at hl; simp at hl
      | cons x r =>
        rw [hx] at h3
        have := h3.2 0 .dead x rfl rfl
        cases this
    exact .cells (by rw [hw hd]; exact h1) h2 (h3.mono hXY) (fun hf o x ho => hXY.cell _ _ _ (h4 hf o x ho)) (fun hf => hc hd (h5 hf))
def tabs : List (Nat × Array Value) := []
def Gl (W : World) : Prop := ∀ p ∈ tabs, ∃ (t : TypeId) (z : Nat × Nat), W.heap[p.1]? = some (.cells p.2 t z)
theorem Gl.below {W W' : World} (h : Gl W) (hb : Below W.heap.size W W') : Gl W' := fun p hp => by
  obtain ⟨t, z, h1⟩ := h p hp
  exact ⟨t, z, (hb.block p.1 (Array.getElem?_eq_some_iff.1 h1).1).trans h1⟩
structure MR (X : Mem) (W0 : World) (m : Mm) (w : World) : Prop where
  below : Below W0.heap.size W0 w
  cell : ∀ b o x, X.cell b o = some x → w.cell? ⟨b, o, none⟩ = some x
  ldom : ∀ i β, X.loc i = some β → i < m.hp.length
  locs : ∀ i blk, m.hp[i]? = some blk → ∃ β, X.loc i = some β ∧ W0.heap.size ≤ β ∧ β < w.heap.size ∧ BlkIs X w β blk
  inj : ∀ i j β bi bj, X.loc i = some β → X.loc j = some β → m.hp[i]? = some bi → m.hp[j]? = some bj → i = j ∨ bi.isDead ∨ bj.isDead
  odom : ∀ k T, X.own k = some T → k < m.hw.length
  toks : ∀ k n, m.hw[k]? = some n → ∃ T, X.own k = some T ∧ (T.n = n.n ∧ T.e = n.e ∧ T.size = n.size) ∧ W0.heap.size ≤ T.g ∧ n.n ≤ T.cap ∧ T.cap ≤ maxLen ∧ 0 < T.size ∧ (∃ cur, w.heap[T.g]? = some (.cells cur T.e (0, 0)) ∧ cur.size = T.cap * T.size) ∧
    (∀ o, n.n * T.size ≤ o → X.cell T.g o = none) ∧ (∀ i, X.loc i ≠ some T.g)
  oinj : ∀ i j S T, X.own i = some S → X.own j = some T → S.g = T.g → i = j
  gl : Gl W0
  rm : ∀ β, 0 < X.room β → ∃ (arr : Array Value) (t : TypeId) (z : Nat × Nat), w.heap[β]? = some (.cells arr t z) ∧ X.room β ≤ arr.size
def find : List (Nat × AV) → Nat → Option AV
  | [], _ => none
  | (s, c) :: r, t => if Nat.beq s t then some c else find r t
structure FR (X : Mem) (nt : Nat) (fr : List (Nat × AV)) (a : Act) : Prop where
  size : a.tmps.size = nt
  defers : a.defers = []
  slot : ∀ t c, find fr t = some c → ∃ x, a.tmps[t]? = some x ∧ Rep X c x
theorem FR.mono {base nt : Nat} {X Y : Mem} (hXY : X.Le base Y) {fr : List (Nat × AV)} {a : Act} (h : FR X nt fr a) : FR Y nt fr a :=
  ⟨h.size, h.defers, fun t c hc => by obtain ⟨x, h1, h2⟩ := h.slot t c hc; exact ⟨x, h1, h2.mono hXY⟩⟩
theorem FR.put {X : Mem} {nt : Nat} {fr : List (Nat × AV)} {a : Act} (h : FR X nt fr a) {d : Nat} {c : AV} {x : Value} (hd : d < nt) (hr : Rep X c x) : FR X nt ((d, c) :: fr) (a.put (some d) x) := by
  refine ⟨by simp [Act.put, h.size], h.defers, fun t e he => ?_⟩
  unfold find at he
  by_cases e1 : d = t
  · subst e1
    rw [if_pos (Nat.beq_refl d)] at he
    injection he with he
    subst he
    exact ⟨x, by simp [Act.put, h.size, hd], hr⟩
  · rw [if_neg (by simpa using e1)] at he
    obtain ⟨y, h1, h2⟩ := h.slot t e he
    exact ⟨y, by simp [Act.put, Array.getElem?_setIfInBounds_ne e1, h1], h2⟩
theorem FR.weak {X : Mem} {nt : Nat} {fr fr' : List (Nat × AV)} {a : Act} (h : FR X nt fr a) (hw : ∀ t c, find fr' t = some c → find fr t = some c) : FR X nt fr' a := ⟨h.size, h.defers, fun t c hc => h.slot t c (hw t c hc)⟩
/-! ### values that are known whole -/
def CV.val : CV → Option Value
  | .v x => some x
  | .sl .. => none
def vals : List CV → Option (List Value)
  | [] => some []
  | .v x :: r => (vals r).map (x :: ·)
  | .sl .. :: _ => none
def AV.val : AV → Option Value
  | .c x => x.val
  | .agg cs => (vals cs).map fun xs => .agg xs.toArray
  | _ => none
theorem vals_rep {C : Nat → Nat → Option Value} : ∀ {cs : List CV} {xs ys : List Value}, vals cs = some ys → RepCs C cs xs → xs = ys
  | [], xs, ys, h, hr => by
    simp [vals] at h
    subst h
    exact List.eq_nil_of_length_eq_zero hr.1.symm
  | .sl .. :: _, _, _, h, _ => by simp [vals] at h
  | .v x :: r, xs, ys, h, hr => by
    simp only [vals, Option.map_eq_some_iff] at h
    obtain ⟨zs, h1, rfl⟩ := h
    cases xs with
    | nil => have := hr.1; simp at this
    | cons y xs =>
      have h0 := hr.2 0 _ y rfl rfl
      cases h0
      rw [vals_rep (xs := xs) h1 ⟨by simpa using hr.1, fun i c x h2 h3 => hr.2 (i + 1) c x (by simpa using h2) (by simpa using h3)⟩]
theorem val_rep {X : Mem} {c : AV} {x y : Value} (h : c.val = some y) (hr : Rep X c x) : x = y := by
  cases hr with
  | c hr =>
    cases hr with
    | v => simpa [AV.val, CV.val] using h
    | sl => simp [AV.val, CV.val] at h
  | agg hr =>
    simp only [AV.val, Option.map_eq_some_iff] at h
    obtain ⟨zs, h1, rfl⟩ := h
    rw [← vals_rep h1 hr]
  | tup => simp [AV.val] at h
  | own => simp [AV.val] at h
  | ptr => simp [AV.val] at h
  | cptr => simp [AV.val] at h
  | fn => simp [AV.val] at h
  | lsl => simp [AV.val] at h
  | mapp => simp [AV.val] at h
  | ifc => simp [AV.val] at h
  | strc => simp [AV.val] at h
def cvOf : Value → Option CV
  | .slice none 0 0 => some (.sl true 0 [])
  | .agg _ | .tuple _ => none
  | x => some (.v x)
def cvsOf : List Value → Option (List CV)
  | [] => some []
  | x :: r => match cvOf x, cvsOf r with
    | some c, some cs => some (c :: cs)
    | _, _ => none
def avOf1 : Value → Option AV
  | .agg xs => (cvsOf xs.toList).map .agg
  | x => (cvOf x).map .c
def avsOf : List Value → Option (List AV)
  | [] => some []
  | x :: r => match avOf1 x, avsOf r with
    | some c, some cs => some (c :: cs)
    | _, _ => none
def avOf : Value → Option AV
  | .tuple xs => (avsOf xs.toList).map .tup
  | x => avOf1 x
theorem cvOf_rep {C : Nat → Nat → Option Value} {x : Value} {c : CV} (h : cvOf x = some c) : RepC C c x := by
  unfold cvOf at h
  split at h
  · injection h with h
    subst h
    exact .sl (xs := []) rfl (fun i c x h => by cases h) (Nat.le_refl _) ⟨Nat.zero_le _, fun _ => rfl⟩ (fun _ => rfl) (fun j x h => by cases h)
  · cases h
  · cases h
  · injection h with h
    subst h
    refine .v ?_
    cases x <;> first | rfl | simp_all
theorem cvsOf_rep {C : Nat → Nat → Option Value} : ∀ {xs : List Value} {cs : List CV}, cvsOf xs = some cs → RepCs C cs xs
  | [], cs, h => by
    simp [cvsOf] at h
    subst h
    exact ⟨rfl, fun i c x h => by cases h⟩
  | x :: r, cs, h => by
    unfold cvsOf at h
    split at h
    · rename_i c ds h1 h2
      injection h with h
      subst h
      have ih := cvsOf_rep (C := C) h2
      refine ⟨by simp [ih.1], fun i e y h3 h4 => ?_⟩
      cases i with
      | zero => simp at h3 h4; subst h3 h4; exact cvOf_rep h1
      | succ i => exact ih.2 i e y (by simpa using h3) (by simpa using h4)
    · cases h
theorem avOf1_rep {X : Mem} {x : Value} {c : AV} (h : avOf1 x = some c) : Rep X c x := by
  unfold avOf1 at h
  split at h
  · simp only [Option.map_eq_some_iff] at h
    obtain ⟨cs, h1, rfl⟩ := h
    exact .agg (cvsOf_rep h1)
  · simp only [Option.map_eq_some_iff] at h
    obtain ⟨c', h1, rfl⟩ := h
    exact .c (cvOf_rep h1)
theorem avsOf_rep {X : Mem} : ∀ {xs : List Value} {cs : List AV}, avsOf xs = some cs → Reps X cs xs
  | [], cs, h => by
    simp [avsOf] at h
    subst h
    exact ⟨rfl, fun i c x h => by cases h⟩
  | x :: r, cs, h => by
    unfold avsOf at h
    split at h
    · rename_i c ds h1 h2
      injection h with h
      subst h
      have ih := avsOf_rep (X := X) h2
      refine ⟨by simp [ih.1], fun i e y h3 h4 => ?_⟩
      cases i with
      | zero => simp at h3 h4; subst h3 h4; exact avOf1_rep h1
      | succ i => exact ih.2 i e y (by simpa using h3) (by simpa using h4)
    · cases h
theorem avOf_rep {X : Mem} {x : Value} {c : AV} (h : avOf x = some c) : Rep X c x := by
  unfold avOf at h
  split at h
  · simp only [Option.map_eq_some_iff] at h
    obtain ⟨cs, h1, rfl⟩ := h
    have := avsOf_rep (X := X) h1
    exact .tup this.1 this.2
  · exact avOf1_rep h
def pureVal {α : Type} (P : Program) : Sem α → Option α
  | .pure a => some a
  | .program k => pureVal P (k P)
  | _ => none
theorem pureVal_run {α : Type} {P : Program} {a : α} : ∀ {s : Sem α}, pureVal P s = some a → ∀ w, s.run P w = .ok a w
  | .pure b, h, w => by simp [pureVal] at h; subst h; rfl
  | .program k, h, w => by
    have := pureVal_run (s := k P) (by simpa [pureVal] using h) w
    simpa [Sem.run] using this
  | .load .., h, _ => by simp [pureVal] at h
  | .store .., h, _ => by simp [pureVal] at h
  | .new .., h, _ => by simp [pureVal] at h
  | .shape .., h, _ => by simp [pureVal] at h
  | .freeze .., h, _ => by simp [pureVal] at h
  | .frozen .., h, _ => by simp [pureVal] at h
  | .getObj .., h, _ => by simp [pureVal] at h
  | .setObj .., h, _ => by simp [pureVal] at h
  | .choose .., h, _ => by simp [pureVal] at h
  | .sys .., h, _ => by simp [pureVal] at h
  | .mark .., h, _ => by simp [pureVal] at h
  | .halt .., h, _ => by simp [pureVal] at h
end Go.Vs.Ab
