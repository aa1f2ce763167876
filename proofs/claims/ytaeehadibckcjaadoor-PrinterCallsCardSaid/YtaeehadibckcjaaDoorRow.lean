/-
  Slices whose cells are read, and the append to a slice of the call's own, whatever the source; no program in sight.
-/
import Derived.Test.YtaeehadibckcjaaDoorLib
import Derived.Laws.AppendOwnNone
import Derived.Deep.Draws
namespace Go.Vs
open Go.RowKit Go.Maps

/-- v is a slice of n elements of 'size' cells each, whose cells are xs. -/
def Rd (w : World) (size : Nat) (v : Value) (n : Nat) (xs : List Value) : Prop :=
  xs.length = n * size ∧ ((v = .slice none 0 0 ∧ n = 0) ∨
    ∃ a cap, v = .slice (some a) n cap ∧ n ≤ cap ∧ cap ≤ maxLen ∧ ∀ j u, xs[j]? = some u → w.cell? (a.add j) = some u)

theorem add_none (b off j : Nat) : (⟨b, off, none⟩ : Addr).add j = ⟨b, off + j, none⟩ := by unfold Addr.add; split <;> simp_all
theorem add_block (a : Addr) (j : Nat) : (a.add j).block = a.block := by unfold Addr.add; split <;> rfl
theorem spot_of_cell {w : World} {a : Addr} {u : Value} (h : w.cell? a = some u) : a.spot = none := by
  unfold World.cell? at h
  split at h
  · split at h
    · cases h
    · rename_i hs; simpa using hs
  · cases h
theorem spot_of_add {w : World} {a : Addr} {u : Value} (h : w.cell? (a.add 0) = some u) : a.spot = none := by
  have e : a.add 0 = a := by unfold Addr.add; simp
  rw [e] at h
  exact spot_of_cell h

theorem Rd.mk' {w : World} {size n b off cap : Nat} {xs : List Value} (h1 : xs.length = n * size) (h2 : n ≤ cap) (h3 : cap ≤ maxLen) (h4 : ∀ j u, xs[j]? = some u → w.cell? ⟨b, off + j, none⟩ = some u) : Rd w size (.slice (some ⟨b, off, none⟩) n cap) n xs :=
  ⟨h1, Or.inr ⟨_, cap, rfl, h2, h3, fun j u hu => by rw [add_none]; exact h4 j u hu⟩⟩

/-- The block that a slice leads to. -/
def sblk : Value → Option Nat
  | .slice (some a) _ _ => some a.block
  | _ => none

theorem sblk_own (v : Value) : v.ownBlock = sblk v := by
  cases v <;> rfl

theorem rd_nil (w : World) (size : Nat) : Rd w size (.slice none 0 0) 0 [] := ⟨by simp, Or.inl ⟨rfl, rfl⟩⟩

theorem Rd.of_own {w : World} {base : Nat} {e : TypeId} {size : Nat} {v : Value} {n : Nat} {xs : List Value} (h : w.ownsRow base e size v n xs) : Rd w size v n xs := by
  refine ⟨h.1, ?_⟩
  rcases h.2 with h2 | ⟨g, cap, cur, rfl, hb, hg, h3, h4, h5, h6⟩
  · exact Or.inl h2
  · exact Or.inr ⟨_, cap, rfl, h3, h4, fun j u hu => h.cells (g := g) rfl j u hu⟩

theorem Rd.cellsOf {w w' : World} {size : Nat} {v : Value} {n : Nat} {xs : List Value} (h : Rd w size v n xs) (hc : ∀ b o u, sblk v = some b → b < w.heap.size → w.cell? ⟨b, o, none⟩ = some u → w'.cell? ⟨b, o, none⟩ = some u) : Rd w' size v n xs := by
  refine ⟨h.1, ?_⟩
  rcases h.2 with h2 | ⟨a, cap, rfl, h3, h4, h5⟩
  · exact Or.inl h2
  · refine Or.inr ⟨a, cap, rfl, h3, h4, fun j u hu => ?_⟩
    have hcell := h5 j u hu
    have hs := spot_of_cell hcell
    have hlt := World.block_lt_of_cell? w _ hcell
    have hb := add_block a j
    generalize a.add j = c at *
    obtain ⟨cb, co, cs⟩ := c
    simp only at hs hb hlt
    subst hs
    exact hc cb co u (by rw [hb]; rfl) hlt hcell

theorem Rd.turns {F : Nat → Prop} {w w' : World} {size : Nat} {v : Value} {n : Nat} {xs : List Value} (h : Rd w size v n xs) (ht : Turns F w w') (hb : ∀ b, sblk v = some b → ¬ F b) : Rd w' size v n xs :=
  h.cellsOf fun b o u hs hlt hc => by rw [ht.cell (p := ⟨b, o, none⟩) hlt (hb b hs)]; exact hc

theorem Rd.below {B : Nat} {w w' : World} {size : Nat} {v : Value} {n : Nat} {xs : List Value} (h : Rd w size v n xs) (ht : Below B w w') (hb : ∀ b, sblk v = some b → b < B) : Rd w' size v n xs :=
  h.cellsOf fun b o u hs _ hc => by rw [ht.cell (p := ⟨b, o, none⟩) (hb b hs)]; exact hc

/-- What is read stays as it is where only new blocks turn. -/
theorem Rd.kept {w w' : World} {size : Nat} {v : Value} {n : Nat} {xs : List Value} (h : Rd w size v n xs) (ht : Below w.heap.size w w') : Rd w' size v n xs :=
  h.cellsOf fun b o u _ hlt hc => by rw [ht.cell (p := ⟨b, o, none⟩) hlt]; exact hc

theorem Rd.drew {w : World} {size : Nat} {v : Value} {n : Nat} {xs : List Value} (h : Rd w size v n xs) : Rd w.drew size v n xs := h
theorem Rd.drewN {w : World} {size : Nat} {v : Value} {n : Nat} {xs : List Value} (h : Rd w size v n xs) (q : Nat) : Rd (w.drewN q) size v n xs := h

theorem Rd.lt {w : World} {size : Nat} {v : Value} {n : Nat} {xs : List Value} (h : Rd w size v n xs) (hn : 0 < n) (hs : 0 < size) : ∀ b, sblk v = some b → b < w.heap.size := by
  intro b hb
  rcases h.2 with ⟨rfl, h2⟩ | ⟨a, cap, rfl, h3, h4, h5⟩
  · omega
  · simp [sblk] at hb
    subst hb
    have hl : 0 < xs.length := by rw [h.1]; exact Nat.mul_pos hn hs
    have := World.block_lt_of_cell? w _ (h5 0 xs[0] (by simp [hl]))
    rwa [add_block] at this

theorem own_turns {F : Nat → Prop} {w w' : World} {base : Nat} {e : TypeId} {size : Nat} {v : Value} {n : Nat} {xs : List Value} (h : w.ownsRow base e size v n xs) (ht : Turns F w w') (hb : ∀ b, sblk v = some b → ¬ F b) : w'.ownsRow base e size v n xs := by
  refine ⟨h.1, ?_⟩
  rcases h.2 with hn | ⟨g, cap, cur, rfl, hbg, hg, rest⟩
  · exact Or.inl hn
  · exact Or.inr ⟨g, cap, cur, rfl, hbg, (ht.block g (Array.getElem?_eq_some_iff.1 hg).1 (hb g rfl)).trans hg, rest⟩

theorem own_mono {w : World} {base : Nat} {e : TypeId} {size : Nat} {v : Value} {n : Nat} {xs : List Value} (h : w.ownsRow base e size v n xs) : w.ownsRow 0 e size v n xs := by
  refine ⟨h.1, ?_⟩
  rcases h.2 with hn | ⟨g, cap, cur, rfl, hbg, rest⟩
  · exact Or.inl hn
  · exact Or.inr ⟨g, cap, cur, rfl, Nat.zero_le _, rest⟩

/-- A new block of cells as a slice's source. -/
theorem rd_new (w : World) (cs : Array Value) (t : TypeId) (size n : Nat) (hl : cs.size = n * size) (hn : n ≤ maxLen) : Rd (w.alloc (.cells cs t)) size (.slice (some ⟨w.heap.size, 0, none⟩) n n) n cs.toList := by
  refine Rd.mk' (by simpa using hl) (Nat.le_refl _) hn (fun j u hu => ?_)
  rw [Nat.zero_add]
  exact cell_of_heap (halloc_new w _) (by simpa using hu)

theorem own_new (w : World) (cs : Array Value) (t : TypeId) (size n : Nat) (hl : cs.size = n * size) (hn : n ≤ maxLen) : (w.alloc (.cells cs t)).ownsRow 0 t size (.slice (some ⟨w.heap.size, 0, none⟩) n n) n cs.toList := by
  refine ⟨by simpa using hl, Or.inr ⟨w.heap.size, n, cs, rfl, Nat.zero_le _, halloc_new w _, Nat.le_refl _, hn, hl, ?_⟩⟩
  rw [List.take_of_length_le]
  simp [hl]

section
variable {P : Program} (w : World) {ops : Array Oper} {rest : List Oper} {o : Oper} {a : Act} {Q : Exit → Act → World → Prop}

/-- 'append(s, x...)' TO A SLICE OF THE CALL's OWN, from a slice that is read, a nil one too. -/
theorem wpList_append_rd (hgd : o.guard = none) (s x : Operand) (t : TypeId)
    (ho : o.op = .call { callee := .builtin .append, args := #[s, x], argTypes := #[t, t] })
    (e : TypeId) (i : TypeInfo) (z : Value) (size bytes : Nat) (ht : P.underlying t = some (.slice e)) (hi : P.info? e = some i) (hz : i.zero = some z)
    (hsize : i.size = size) (hby : i.bytes = bytes) (hzs : z.cells.size = size) (hsz : 0 < size)
    (v : Value) (n : Nat) (xs : List Value) (hs : a.eval s = v) (hown : w.ownsRow 0 e size v n xs)
    (vx : Value) (m : Nat) (ys : List Value) (hx : a.eval x = vx) (hrd : Rd w size vx m ys) (h1 : ∀ u ∈ ys, u.oneCell' = true)
    (h63 : n + m ≤ maxLen) (hbytes : (n + m) * bytes ≤ 140737488355328)
    (h : ∀ v' w', w'.ownsRow 0 e size v' (n + m) (xs ++ ys) → w.grownBy w' (sblk v) → (sblk v' = sblk v ∨ sblk v' = some w.heap.size) → wpList P ops Q rest (a.put o.dst v') w') :
    wpList P ops Q (o :: rest) a w := by
  rcases hrd.2 with ⟨rfl, rfl⟩ | ⟨ad, cap, rfl, h3, h4, h5⟩
  · have hy : ys = [] := List.eq_nil_of_length_eq_zero (by simpa using hrd.1)
    subst hy
    refine wpList_append_own_none (P := P) hgd s x t ho 0 e i size ht hi v n xs hs hown hx ?_
    exact h v w (by simpa using hown) ⟨rfl, rfl, rfl, Nat.le_refl _, fun _ _ _ => rfl⟩ (Or.inl rfl)
  · refine wpList_append_own_at (P := P) w hgd s x t ho 0 e i z size bytes ht hi hz hsize hby hzs hsz v n xs hs hown ad m cap ys hx hrd.1 h5 h1 h63 hbytes (Nat.zero_le _) ?_
    intro v' w' g1 g2 _ g4
    rw [sblk_own, sblk_own] at g4
    rw [sblk_own] at g2
    exact h v' w' g1 g2 g4
end
end Go.Vs

namespace Go.Vs
open Go.RowKit Go.Maps
/-- The slice's shape: one form for nil and for the rest. -/
theorem Rd.shape {w : World} {size : Nat} {v : Value} {n : Nat} {xs : List Value} (h : Rd w size v n xs) (hsz : 0 < size := by omega) :
    ∃ a cap, v = .slice a n cap ∧ n ≤ maxLen ∧ (0 < n → ∃ b off, a = some ⟨b, off, none⟩ ∧ n ≤ cap ∧ cap ≤ maxLen ∧ b < w.heap.size ∧ ∀ j u, xs[j]? = some u → w.cell? ⟨b, off + j, none⟩ = some u) := by
  rcases h.2 with ⟨rfl, rfl⟩ | ⟨a, cap, rfl, h3, h4, h5⟩
  · exact ⟨none, 0, rfl, Nat.zero_le _, fun h => absurd h (Nat.lt_irrefl _)⟩
  · refine ⟨_, cap, rfl, Nat.le_trans h3 h4, fun hn => ?_⟩
    have hl : 0 < xs.length := by rw [h.1]; exact Nat.mul_pos hn hsz
    have h0 := h5 0 xs[0] (by simp [hl])
    have hs := spot_of_add h0
    have hlt := World.block_lt_of_cell? w _ h0
    rw [add_block] at hlt
    obtain ⟨b, o, sp⟩ := a
    simp only at hs hlt
    subst hs
    exact ⟨b, o, rfl, h3, h4, hlt, fun j u hu => by rw [← add_none]; exact h5 j u hu⟩

/-- A slice of strings. -/
def RdS (w : World) (v : Value) (xs : List ByteArray) : Prop := Rd w 1 v xs.length (xs.map Value.string)

theorem RdS.cell {w : World} {xs : List ByteArray} {b off : Nat} (h : ∀ j u, (xs.map Value.string)[j]? = some u → w.cell? ⟨b, off + j, none⟩ = some u) {i : Nat} (hi : i < xs.length) :
    w.cell? ⟨b, off + i, none⟩ = some (.string xs[i]) := h i _ (by simp [hi])
end Go.Vs

namespace Go.Vs
open Go.RowKit Go.Maps
/-- A part of a slice of one-cell elements. -/
theorem rd_sub {w : World} {b off n cap lo hi : Nat} {xs : List Value} (h : Rd w 1 (.slice (some ⟨b, off, none⟩) n cap) n xs) (h1 : lo ≤ hi) (h2 : hi ≤ n) :
    Rd w 1 (.slice (some ⟨b, off + lo, none⟩) (hi - lo) (cap - lo)) (hi - lo) ((xs.drop lo).take (hi - lo)) := by
  have hl := h.1
  rcases h.2 with ⟨h3, _⟩ | ⟨a', cap', e, h3, h4, h5⟩
  · cases h3
  · injection e with e1 e2 e3
    injection e1 with e1
    subst e1 e3
    refine Rd.mk' (by simp; omega) (by omega) (by omega) (fun j u hu => ?_)
    rw [Nat.add_assoc, ← add_none]
    refine h5 (lo + j) u ?_
    rw [List.getElem?_take] at hu
    split at hu
    · simpa using hu
    · cases hu

theorem rds_sub {w : World} {b off cap lo hi : Nat} {xs : List ByteArray} (h : RdS w (.slice (some ⟨b, off, none⟩) xs.length cap) xs) (h1 : lo ≤ hi) (h2 : hi ≤ xs.length) :
    RdS w (.slice (some ⟨b, off + lo, none⟩) (hi - lo) (cap - lo)) ((xs.drop lo).take (hi - lo)) := by
  have := rd_sub h h1 h2
  unfold RdS
  have e : ((xs.drop lo).take (hi - lo)).length = hi - lo := by simp; omega
  rw [e]
  simpa using this
end Go.Vs

namespace Go.Vs
open Go.RowKit Go.Maps
section
variable {P : Program} (w : World)
theorem run_append_rd (t ty : TypeId) (e : TypeId) (i : TypeInfo) (z : Value) (size bytes : Nat) (ht : P.underlying t = some (.slice e)) (hi : P.info? e = some i) (hz : i.zero = some z)
    (hsize : i.size = size) (hby : i.bytes = bytes) (hzs : z.cells.size = size) (hsz : 0 < size)
    (v : Value) (n : Nat) (xs : List Value) (hown : w.ownsRow 0 e size v n xs)
    (vx : Value) (m : Nat) (ys : List Value) (hrd : Rd w size vx m ys) (h1 : ∀ u ∈ ys, u.oneCell' = true)
    (h63 : n + m ≤ maxLen) (hbytes : (n + m) * bytes ≤ 140737488355328) :
    ∃ v' w', (Builtin.append_ #[t, t] ty #[v, vx]).run P w = .ok v' w' ∧ w'.ownsRow 0 e size v' (n + m) (xs ++ ys) ∧ w.grownBy w' (sblk v) ∧ (sblk v' = sblk v ∨ sblk v' = some w.heap.size) := by
  rcases hrd.2 with ⟨rfl, rfl⟩ | ⟨ad, cap, rfl, h3, h4, h5⟩
  · have hy : ys = [] := List.eq_nil_of_length_eq_zero (by simpa using hrd.1)
    subst hy
    exact ⟨v, w, run_append_owned_none (P := P) (w := w) 0 t ty e i size ht hi v n xs hown, by simpa using hown, ⟨rfl, rfl, rfl, Nat.le_refl _, fun _ _ _ => rfl⟩, Or.inl rfl⟩
  · obtain ⟨v', w', g0, g1, g2, _, g4⟩ := run_append_own_at (P := P) w 0 t ty e i z size bytes ht hi hz hsize hby hzs hsz v n xs hown ad m cap ys hrd.1 h5 h1 h63 hbytes (Nat.zero_le _)
    rw [sblk_own, sblk_own] at g4
    rw [sblk_own] at g2
    exact ⟨v', w', g0, g1, g2, g4⟩

/-- 'append(s, x...)' as one step of a region that draws. -/
theorem step_append_rd {ops : Array Oper} {o : Oper} {a : Act} {K : Act → World → Prop} {Q : Exit → Act → World → Prop} {E : Prop}
    (hg : o.guard = none) (s x : Operand) (t : TypeId) (hop : o.op = Op.call { callee := Callee.builtin Builtin.append, args := #[s, x], argTypes := #[t, t] })
    (e : TypeId) (i : TypeInfo) (z : Value) (size bytes : Nat) (ht : P.underlying t = some (.slice e)) (hi : P.info? e = some i) (hz : i.zero = some z)
    (hsize : i.size = size) (hby : i.bytes = bytes) (hzs : z.cells.size = size) (hsz : 0 < size)
    (v : Value) (n : Nat) (xs : List Value) (hs : a.eval s = v) (hown : w.ownsRow 0 e size v n xs)
    (vx : Value) (m : Nat) (ys : List Value) (hx : a.eval x = vx) (hrd : Rd w size vx m ys) (h1 : ∀ u ∈ ys, u.oneCell' = true)
    (h63 : n + m ≤ maxLen) (hbytes : (n + m) * bytes ≤ 140737488355328)
    (hK : ∀ v' w', w'.ownsRow 0 e size v' (n + m) (xs ++ ys) → w.grownBy w' (sblk v) → (sblk v' = sblk v ∨ sblk v' = some w.heap.size) → K (a.put o.dst v') w') :
    if Region.wanted o (yielded ops a.tmps) = true then Oper.wp P o a w K Q else E := by
  have hw : Region.wanted o (yielded ops a.tmps) = true := by simp [Region.wanted, hg]
  rw [if_pos hw]
  obtain ⟨v', w', hrun, g1, g2, g3⟩ := run_append_rd (P := P) w t o.type e i z size bytes ht hi hz hsize hby hzs hsz v n xs hown vx m ys hrd h1 h63 hbytes
  unfold Oper.wp
  simp [execOp, hop, resolve, invoke, builtin, hs, hx, hrun, Result.andThen]
  exact hK v' w' g1 g2 g3
end
end Go.Vs

namespace Go.Vs
theorem cell_alloc_keep {X : World} {o : Obj} {a : Addr} {v : Value} (h : X.cell? a = some v) : (X.alloc o).cell? a = some v := by
  rw [World.cell?_of_block (w := X) (halloc_old X o a.block (World.block_lt_of_cell? X a h))]; exact h
theorem cell_alloc_drew_keep {X : World} {o : Obj} {a : Addr} {v : Value} (h : X.drew.cell? a = some v) : (X.alloc o).drew.cell? a = some v :=
  cell_alloc_keep (X := X) h
end Go.Vs

namespace Go.Vs
/-! ### the code from a region on -/
def startsAt (n : Nat) : Code → Bool
  | .region i _ _ => i == n
  | .seq a _ => startsAt n a
  | .block _ a => startsAt n a
  | .loop a => startsAt n a
  | .scope a => startsAt n a
  | _ => false
def fromRegion (n : Nat) : Code → Option Code
  | .seq a b => if startsAt n a then some (.seq a b) else
    match fromRegion n a with
    | some c => some c
    | none => fromRegion n b
  | .block _ c => fromRegion n c
  | .loop c => fromRegion n c
  | .scope c => fromRegion n c
  | .cond _ a b =>
    match fromRegion n a with
    | some c => some c
    | none => fromRegion n b
  | _ => none
end Go.Vs

namespace Go.Vs
open Go.RowKit Go.Maps
/-! ### a part of a slice -/
theorem add_twice (a : Addr) (i j : Nat) (hs : a.spot = none) : (a.add i).add j = a.add (i + j) := by
  obtain ⟨b, o, s⟩ := a
  simp only at hs
  subst hs
  rw [add_none, add_none, add_none, Nat.add_assoc]

theorem rd_sliced {w : World} {size n cap lo hi : Nat} {a : Option Addr} {xs : List Value} (hsz : 0 < size) (h : Rd w size (.slice a n cap) n xs) (h1 : lo ≤ hi) (h2 : hi ≤ n) :
    Rd w size (sliced a lo hi cap size) (hi - lo) ((xs.drop (lo * size)).take ((hi - lo) * size)) := by
  have hl : ((xs.drop (lo * size)).take ((hi - lo) * size)).length = (hi - lo) * size := by
    rw [List.length_take, List.length_drop, h.1, ← Nat.sub_mul]
    exact Nat.min_eq_left (Nat.mul_le_mul_right _ (by omega))
  rcases h.2 with ⟨e, rfl⟩ | ⟨a', cap', e, h3, h4, h5⟩
  · injection e with e1 _ e3
    subst e1 e3
    obtain rfl : hi = 0 := by omega
    obtain rfl : lo = 0 := by omega
    unfold sliced
    simpa using rd_nil w size
  · injection e with e1 e2 e3
    subst e1 e3
    unfold sliced
    refine ⟨hl, Or.inr ?_⟩
    by_cases hc : cap = lo
    · rw [if_pos hc]
      exact ⟨a', cap - lo, rfl, by omega, by omega, fun j u hu => by
        have : hi - lo = 0 := by omega
        rw [this, Nat.zero_mul, List.take_zero] at hu
        cases hu⟩
    · rw [if_neg hc]
      refine ⟨a'.add (lo * size), cap - lo, rfl, by omega, by omega, fun j u hu => ?_⟩
      rw [List.getElem?_take] at hu
      split at hu
      · rename_i hj
        rw [List.getElem?_drop] at hu
        have hn : 0 < n := by
          rcases Nat.eq_zero_or_pos n with h0 | h0
          · subst h0
            have : hi - lo = 0 := by omega
            rw [this, Nat.zero_mul] at hj
            exact absurd hj (Nat.not_lt_zero _)
          · exact h0
        have hx : 0 < xs.length := by rw [h.1]; exact Nat.mul_pos hn hsz
        rw [add_twice _ _ _ (spot_of_add (h5 0 xs[0] (by simp [hx])))]
        exact h5 _ u hu
      · cases hu

theorem sblk_sliced (a : Option Addr) (lo hi cap size n : Nat) : sblk (sliced a lo hi cap size) = sblk (.slice a n cap) := by
  unfold sliced
  cases a with
  | none =>
    by_cases hc : cap = lo
    · rw [if_pos hc]; rfl
    · rw [if_neg hc]; rfl
  | some x =>
    by_cases hc : cap = lo
    · rw [if_pos hc]; rfl
    · rw [if_neg hc]
      exact congrArg some (add_block x _)

section
variable {P : Program} (w : World)
theorem run_sliced_tail (t e : TypeId) (size : Nat) (ht : P.underlying t = some (.slice e)) (hsize : ∀ w0 : World, (sizeOf e).run P w0 = .ok size w0) (a : Option Addr) (n cap : Nat) (k : IntKind) (l : Int) (h0 : 0 ≤ l) (h1 : l ≤ n) :
    (Instr.sliceAt t (.slice a n cap) (some (.int k l)) none none).run P w = .ok (sliced a l.toNat n cap size) w := by
  have he : P.elem t = e := by unfold Program.elem; rw [ht]
  have ht' : P.underlying t = some (.slice (P.elem t)) := by rw [he]; exact ht
  rw [run_sliceAt_slice w t _ _ _ _ ht', run_slice_l w t a n cap ht' k l h0 h1, he, hsize]
  rfl

theorem run_sliced_head (t e : TypeId) (size : Nat) (ht : P.underlying t = some (.slice e)) (hsize : ∀ w0 : World, (sizeOf e).run P w0 = .ok size w0) (a : Option Addr) (n cap : Nat) (k : IntKind) (l : Int) (h0 : 0 ≤ l) (h1 : l ≤ cap) :
    (Instr.sliceAt t (.slice a n cap) none (some (.int k l)) none).run P w = .ok (sliced a 0 l.toNat cap size) w := by
  have he : P.elem t = e := by unfold Program.elem; rw [ht]
  have ht' : P.underlying t = some (.slice (P.elem t)) := by rw [he]; exact ht
  rw [run_sliceAt_slice w t _ _ _ _ ht', run_slice_h w t a n cap ht' k l h0 h1, he, hsize]
  rfl

theorem run_sliced_mid (t e : TypeId) (size : Nat) (ht : P.underlying t = some (.slice e)) (hsize : ∀ w0 : World, (sizeOf e).run P w0 = .ok size w0) (a : Option Addr) (n cap : Nat) (k k' : IntKind) (l l' : Int) (h0 : 0 ≤ l) (h1 : l ≤ l') (h2 : l' ≤ cap) :
    (Instr.sliceAt t (.slice a n cap) (some (.int k l)) (some (.int k' l')) none).run P w = .ok (sliced a l.toNat l'.toNat cap size) w := by
  have he : P.elem t = e := by unfold Program.elem; rw [ht]
  have ht' : P.underlying t = some (.slice (P.elem t)) := by rw [he]; exact ht
  rw [run_sliceAt_slice w t _ _ _ _ ht', run_slice_lh w t a n cap ht' k k' l l' h0 h1 h2, he, hsize]
  rfl

variable {ops : Array Oper} {rest : List Oper} {o : Oper} {a : Act} {Q : Exit → Act → World → Prop}

/-- 's[lo:]' of a slice that is read. -/
theorem wpList_tail_rd (hw : Region.wanted o (yielded ops a.tmps) = true) (x lo : Operand) (t : TypeId) (hop : o.op = Op.slice t x (some lo) none none)
    (e : TypeId) (size : Nat) (ht : P.underlying t = some (.slice e)) (hsize : ∀ w0 : World, (sizeOf e).run P w0 = .ok size w0) (hsz : 0 < size)
    (v : Value) (n : Nat) (xs : List Value) (hx : a.eval x = v) (hrd : Rd w size v n xs) (l : Int) (hl : a.eval lo = .int .i64 l) (h0 : 0 ≤ l) (h1 : l ≤ n)
    (hK : ∀ v', Rd w size v' (n - l.toNat) (xs.drop (l.toNat * size)) → sblk v' = sblk v → wpList P ops Q rest (a.put o.dst v') w) :
    wpList P ops Q (o :: rest) a w := by
  refine wpList_step fun K' hK' => ?_
  rw [if_pos hw]
  have hsh : ∃ ad cap, v = .slice ad n cap := by
    rcases hrd.2 with ⟨rfl, rfl⟩ | ⟨a', cap, rfl, _⟩
    · exact ⟨_, _, rfl⟩
    · exact ⟨_, _, rfl⟩
  obtain ⟨ad, cap, rfl⟩ := hsh
  have hrun := run_sliced_tail (P := P) w t e size ht hsize ad n cap .i64 l h0 h1
  unfold Oper.wp
  simp [execOp, hop, hx, hl, hrun, Result.andThen]
  refine hK' _ _ (hK _ ?_ (sblk_sliced ..))
  have := rd_sliced hsz hrd (lo := l.toNat) (hi := n) (by omega) (Nat.le_refl _)
  rwa [List.take_of_length_le (by rw [List.length_drop, hrd.1, Nat.sub_mul]; exact Nat.le_refl _)] at this
end
end Go.Vs

namespace Go.Vs
open Go.RowKit Go.Maps
/-- 's[lo:]' as the walk spells it: at the end of the room, and ahead of it. -/
theorem rds_tail1 {w : World} {a : Option Addr} {c lo : Nat} {xs ys : List ByteArray} (h : RdS w (.slice a ys.length c) ys) (hlo : lo ≤ ys.length) (e : xs = ys.drop lo) (hc : c = lo) : RdS w (.slice a (ys.length - lo) 0) xs := by
  have := rd_sliced (lo := lo) (hi := ys.length) (by omega) h hlo (Nat.le_refl _)
  unfold sliced at this
  rw [if_pos hc, show c - lo = 0 by omega, Nat.mul_one, Nat.mul_one, ← List.map_drop, ← e, List.take_of_length_le (by rw [List.length_map, e, List.length_drop]; exact Nat.le_refl _)] at this
  unfold RdS
  rw [show xs.length = ys.length - lo by rw [e, List.length_drop]]
  exact this

theorem rds_tail2 {w : World} {a : Option Addr} {c lo : Nat} {xs ys : List ByteArray} (h : RdS w (.slice a ys.length c) ys) (hlo : lo ≤ ys.length) (e : xs = ys.drop lo) (hc : ¬ c = lo) : RdS w (.slice (a.map (·.add lo)) (ys.length - lo) (c - lo)) xs := by
  have := rd_sliced (lo := lo) (hi := ys.length) (by omega) h hlo (Nat.le_refl _)
  unfold sliced at this
  rw [if_neg hc, Nat.mul_one, Nat.mul_one, ← List.map_drop, ← e, List.take_of_length_le (by rw [List.length_map, e, List.length_drop]; exact Nat.le_refl _)] at this
  unfold RdS
  rw [show xs.length = ys.length - lo by rw [e, List.length_drop]]
  exact this
end Go.Vs

namespace Go.Vs
section
variable {P : Program} {w : World} {ops : Array Oper} {rest : List Oper} {o : Oper} {a : Act} {Q : Exit → Act → World → Prop}
/-- A slice operation whose run is known. -/
theorem wpList_sliceAt {t : TypeId} {x : Operand} {lo hi mx : Option Operand} {V : Value} (hw : Region.wanted o (yielded ops a.tmps) = true) (hop : o.op = Op.slice t x lo hi mx)
    (hrun : (Instr.sliceAt t (a.eval x) (lo.map a.eval) (hi.map a.eval) (mx.map a.eval)).run P w = .ok V w) (hK : wpList P ops Q rest (a.put o.dst V) w) : wpList P ops Q (o :: rest) a w := by
  refine wpList_step fun K' hK' => ?_
  rw [if_pos hw]
  unfold Oper.wp
  simp [execOp, hop, hrun, Result.andThen]
  exact hK' _ _ hK
end
end Go.Vs

namespace Go.Vs
open Go.RowKit Go.Maps
theorem drewN_twice (w : World) (a b : Nat) : (w.drewN a).drewN b = w.drewN (a + b) := by simp [World.drewN, Nat.add_assoc]

theorem below_drawn (w : World) (n : Nat) : Below w.heap.size w (w.drewN n) := ⟨rfl, rfl, rfl, Nat.le_refl _, fun _ _ => rfl⟩
end Go.Vs
