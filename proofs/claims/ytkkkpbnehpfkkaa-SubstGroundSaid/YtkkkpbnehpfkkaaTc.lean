/-
  Chapter 4: contracts on abstract values, of what was shown in the program's own terms; Own.
-/
import Derived.Test.YtkkkpbnehpfkkaaTb
import Derived.Test.YtkkkpbnehpfkkaaAo
import Derived.Test.YtkkkpbnehpfkkaaSq
set_option linter.unusedSimpArgs false
namespace Go.Proofs.Ytkkkpbnehpfkkaa
open Go.Vs Go.Vs.Ab

theorem arr1 {vs : Array Value} {v : Value} (h : vs.toList = [v]) : vs = #[v] := by apply Array.ext'; simpa using h
theorem arr2 {vs : Array Value} {v u : Value} (h : vs.toList = [v, u]) : vs = #[v, u] := by apply Array.ext'; simpa using h
theorem callable {F : FuncId} {fn : Func} (h : Try.prog.funcs[F]? = some fn) (hb : callableB fn = true) : Callable Try.prog F := callable_of h hb

set_option maxRecDepth 10000
theorem lightBs_does (l : List Bd) (ex : Bool) : Does Try.prog 10 [slB ex l] (fun m => (bA (lightBs l), m)) := by
  refine does_of_calls (v := .bool (lightBs l)) (callable Try.func10 (by kernel_rfl)) rfl fun X w vs hc hr => ?_
  obtain ⟨v, hv, h1⟩ := reps1 hr
  rw [arr1 hv]
  exact (lightBs_any (rdB_of hc h1)).mono (by rintro _ _ ⟨rfl, rfl⟩; exact ⟨rfl, Go.RowKit.Below.refl _ _⟩)
theorem lightA_does (a : Atm) : Does Try.prog 11 [atA a] (fun m => (bA (lightA a), m)) := by
  refine does_of_calls (v := .bool (lightA a)) (callable Try.func11 (by kernel_rfl)) rfl fun X w vs hc hr => ?_
  obtain ⟨v, hv, h1⟩ := reps1 hr
  rw [arr1 hv, val_rep (val_at a) h1]
  exact lightA_any a
theorem get_does (l : List Bd) (v : ByteArray) (ex : Bool) (hl : l.length ≤ 1000000) : Does Try.prog 18 [slB ex l, sA v] (fun m => (.tup [tmA ((pget l v).getD noTm), bA (pget l v).isSome], m)) := by
  refine does_of_calls (v := .tuple #[tmV ((pget l v).getD noTm), .bool (pget l v).isSome]) (callable Try.func18 (by kernel_rfl)) rfl fun X w vs hc hr => ?_
  obtain ⟨u, u2, hv, h1, h2⟩ := reps2 hr
  rw [arr2 hv, val_rep (y := .string v) rfl h2]
  exact get_any (rdB_of hc h1) hl v
theorem check_does (l : List Bd) (ex : Bool) (hl : l.length ≤ 1000000) : Does Try.prog 21 [slB ex l] (fun m => (eA (pcheck l), m)) := by
  refine does_of_calls (v := errno (pcheck l)) (callable Try.func21 (by kernel_rfl)) rfl fun X w vs hc hr => ?_
  obtain ⟨v, hv, h1⟩ := reps1 hr
  rw [arr1 hv]
  exact check_any (rdB_of hc h1) hl
theorem term_does (l : List Bd) (t : Tm) (ex : Bool) (hl : l.length ≤ 1000000) : Does Try.prog 19 [slB ex l, tmA t] (fun m => (tmA (pterm l t), m)) := by
  refine does_of_calls (v := tmV (pterm l t)) (callable Try.func19 (by kernel_rfl)) rfl fun X w vs hc hr => ?_
  obtain ⟨u, u2, hv, h1, h2⟩ := reps2 hr
  rw [arr2 hv, val_rep (val_tm t) h2]
  exact term_any (rdB_of hc h1) hl t
theorem apply_does (l : List Bd) (a : Atm) (ex : Bool) (hl : l.length ≤ 1000000) : Does Try.prog 15 [slB ex l, atA a] (fun m => (atA (papp l a), m)) := by
  refine does_of_calls (v := amV (papp l a)) (callable Try.func15 (by kernel_rfl)) rfl fun X w vs hc hr => ?_
  obtain ⟨u, u2, hv, h1, h2⟩ := reps2 hr
  rw [arr2 hv, val_rep (val_at a) h2]
  exact apply_any (rdB_of hc h1) hl a
theorem vars_does {a : Atm} (ha : Atm.okay a) : Does Try.prog 12 [atA a] (fun m => (slS false (pnames a true), m)) := by
  refine does_of_rd (size := 1) vals_st one_st (callable Try.func12 (by kernel_rfl)) fun X w vs hc hr => ?_
  obtain ⟨v, hv, h1⟩ := reps1 hr
  rw [arr1 hv, val_rep (val_at a) h1]
  refine (vars_any ha).mono ?_
  rintro _ w' ⟨v, rfl, C⟩
  exact ⟨v, rfl, by rw [flat_st]; exact Rd.of_own C.1, C.2.1, C.2.2⟩
theorem restrict_does (l : List Bd) (xs : List ByteArray) (ex ex2 : Bool) (hl : l.length ≤ 100000) : Does Try.prog 13 [slB ex l, slS ex2 xs] (fun m => (slB false (prestrict l xs), m)) := by
  refine does_of_rd (size := 3) vals_bd one_bd (callable Try.func13 (by kernel_rfl)) fun X w vs hc hr => ?_
  obtain ⟨u, u2, hv, h1, h2⟩ := reps2 hr
  rw [arr2 hv]
  exact restrict_any (rdB_of hc h1) hl (rdS_of hc h2)
theorem ownB_does (l : List Bd) (ex : Bool) (hl : l.length ≤ 1000000) : Does Try.prog 14 [slB ex l] (fun m => (slB false l, m)) := by
  refine does_of_rd (size := 3) vals_bd one_bd (callable Try.func14 (by kernel_rfl)) fun X w vs hc hr => ?_
  obtain ⟨v, hv, h1⟩ := reps1 hr
  rw [arr1 hv]
  exact ownB_any (rdB_of hc h1) hl
end Go.Proofs.Ytkkkpbnehpfkkaa
