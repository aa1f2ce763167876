/-
  A contract whose call hands back a slice of our own: the same with the slice closed (read only, no room claimed). No program in sight.
-/
import Derived.Test.YtaeehadibckcjaaDoorPLAo
set_option linter.unusedVariables false
set_option linter.unusedSimpArgs false
namespace Go.Vs.Ab
open Go.RowKit
variable {P : Program}
theorem reps_no {X : Mem} {c : AV} {xs : List Value} (h : Reps X [c] xs) (hc : ∀ x, ¬ Rep X c x) : False := by
  obtain ⟨v, _, hv⟩ := reps1 h
  exact hc v hv
theorem BlkIs.keep {base : Nat} {X Y Z : Mem} {w w' : World} {β : Nat} {blk : Blk} (h1 : BlkIs X w β blk) (h2 : BlkIs Y w' β blk) (hZ : X.Le base Z) (hc : Z.cell = Y.cell) (hw : w'.heap[β]? = w.heap[β]?) : BlkIs Z w' β blk := by
  cases h2 with
  | dead h => exact .dead h
  | ent a b c d e => exact .ent a b c d (fun o => by rw [hc]; exact e o)
  | byt a b c d e f => exact .byt a b c d e (fun o => by rw [hc]; exact f o)
  | bld a b c d e =>
    cases h1 with
    | byt h => rw [a] at h; simp at h
    | dead h => rw [a] at h; simp at h
    | ent h => rw [a] at h; simp at h
    | bld a1 b1 c1 =>
      rw [a] at a1
      simp only [List.cons.injEq, AV.bld.injEq, and_true] at a1
      obtain ⟨rfl, rfl, rfl⟩ := a1
      rw [hw, b1] at b
      have e1 := Option.some.inj b
      injection e1 with e1 e2
      have e3 := congrArg (fun x : Array Value => x[1]?) e1
      simp at e3
      subst e3
      exact .bld a (by rw [hw]; exact b1) (c1.mono hZ) d (fun o => by rw [hc]; exact e o)
    | cells _ _ b3 =>
      rw [a] at b3
      exact (reps_no b3 (fun x hx => by cases hx)).elim
  | cells b1 b2 b3 b4 b5 =>
    cases h1 with
    | dead h => exact .dead h
    | ent a =>
      rw [a] at b3
      exact (reps_no b3 (fun x hx => by cases hx)).elim
    | bld a =>
      rw [a] at b3
      exact (reps_no b3 (fun x hx => by cases hx)).elim
    | byt a =>
      rw [a] at b3
      exact (reps_no b3 (fun x hx => by cases hx)).elim
    | cells a1 a2 a3 =>
      rw [hw, a1] at b1
      have e1 := Option.some.inj b1
      injection e1 with e1 e2
      subst e1
      exact .cells (by rw [hw]; exact a1) a2 (a3.mono hZ) (fun hf o x ho => by rw [hc]; exact b4 hf o x ho) (fun hf o => by rw [hc]; exact b5 hf o)
theorem Does.drop {F : FuncId} {args : List AV} {f : Mm → AV × Mm} {d : AV} (h : Does P F args f) (hw : ∀ m, ∃ ew, (f m).2 = { m with hw := m.hw ++ ew })
    (hd : ∀ (m : Mm) (X Y : Mem) (v : Value), Y.cell = X.cell → Rep X (f m).1 v → Rep Y d v) : Does P F args (fun m => (d, m)) := by
  refine ⟨h.1, fun X W0 m w vs M hargs => (h.2 X W0 m w vs M hargs).mono ?_⟩
  rintro e w' ⟨v, X', rfl, k1, k2, k3, k4⟩
  obtain ⟨ew, he⟩ := hw m
  rw [he] at k3
  have hL : ∀ b β, (X'.cut m.hp.length m.hw.length).loc b = some β → b < m.hp.length ∧ X'.loc b = some β := fun b β h => by
    simp only [Mem.cut] at h
    split at h
    · rename_i e; exact ⟨e, h⟩
    · cases h
  have hO : ∀ b β, (X'.cut m.hp.length m.hw.length).own b = some β → b < m.hw.length ∧ X'.own b = some β := fun b β h => by
    simp only [Mem.cut] at h
    split at h
    · rename_i e; exact ⟨e, h⟩
    · cases h
  have hLe : X.Le W0.heap.size (X'.cut m.hp.length m.hw.length) := ⟨k1.cell, k1.old, fun i β hi => by
      simp only [Mem.cut]
      rw [if_pos (M.ldom i β hi)]
      exact k1.loc i β hi, fun k T hk => by
      simp only [Mem.cut]
      rw [if_pos (M.odom k T hk)]
      exact k1.own k T hk, k1.room⟩
  refine ⟨v, X'.cut m.hp.length m.hw.length, rfl, hLe, hd m X' _ v rfl k2, ?_, k4⟩
  refine ⟨k3.below, k3.cell, fun i β h => (hL i β h).1, fun i blk h => ?_, fun i k β bi bj g1 g2 q1 q2 => M.inj i k β bi bj ?_ ?_ q1 q2, fun k T h => (hO k T h).1, fun k n h => ?_, fun i k S T g1 g2 he => k3.oinj i k S T (hO i S g1).2 (hO k T g2).2 he, k3.gl, k3.rm⟩
  · obtain ⟨β, g1, g2, g3, hB⟩ := M.locs i blk h
    obtain ⟨β', e1, e2, e3, hB'⟩ := k3.locs i blk h
    have : β' = β := by
      have := k1.loc i β g1
      rw [e1] at this
      exact Option.some.inj this
    subst this
    have hi := (List.getElem?_eq_some_iff.1 h).1
    exact ⟨β', by simp only [Mem.cut]; rw [if_pos hi]; exact e1, g2, e3, hB.keep hB' hLe rfl (k4 i β' g1)⟩
  · obtain ⟨β0, g3, _⟩ := M.locs i bi q1
    have := k1.loc i β0 g3
    rw [(hL i β g1).2] at this
    rw [Option.some.inj this]
    exact g3
  · obtain ⟨β0, g3, _⟩ := M.locs k bj q2
    have := k1.loc k β0 g3
    rw [(hL k β g2).2] at this
    rw [Option.some.inj this]
    exact g3
  · have hk := (List.getElem?_eq_some_iff.1 h).1
    obtain ⟨T, g1, g2, g3, g4, g5, g6, g7, g8, g9⟩ := k3.toks k n (by
      show (m.hw ++ ew)[k]? = some n
      rw [List.getElem?_append_left hk]; exact h)
    exact ⟨T, by simp only [Mem.cut]; rw [if_pos hk]; exact g1, g2, g3, g4, g5, g6, g7, g8, fun i hi => g9 i (hL i _ hi).2⟩
theorem Does.shut {F : FuncId} {args : List AV} {T : Type} {enc : T → List CV} {e : TypeId} {size : Nat} {l : List T} (h : Does P F args (freshA enc e size l)) : Does P F args (fun m => (slR enc l.isEmpty l, m)) :=
  h.drop (fun m => ⟨_, rfl⟩) fun m X Y v hY hr => shut_rep hY (shut_col enc _ l) hr
/-! ### parts of a slice, and what is appended to them -/
theorem natI_nat (i : Nat) : natI (i : Int) = some i := by
  rfl
end Go.Vs.Ab
