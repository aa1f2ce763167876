/-
  Calls with closed arguments, evaluated. No program in sight.
-/
import Derived.Test.YtaeehadibckcjaaDoorPLAr
set_option linter.unusedVariables false
set_option linter.unusedSimpArgs false
namespace Go.Vs.Ab
open Go.RowKit
variable {P : Program}
theorem does_of_evA (hm : P.follows .mixedOrders = true) {H : FuncId → Hint} {n : Nat} {F : FuncId} {args : List AV} {v : Value} {r : AV} (hcb : Callable P F) (hr : avOf v = some r) (hs : shuts args = some args) (h : answer (evFun P H n F args ⟨[], []⟩) = some v) : Does P F args (fun m => (r, m)) :=
  does_of_callsG hcb hr fun X w vs hg hc hrep => by
    unfold answer at h
    split at h
    · rename_i c m1 h1
      obtain ⟨_, h2⟩ := evFun_ok hm n F args ⟨[], []⟩ c m1 h1
      have M : MR ⟨X.cell, fun _ => none, fun _ => none, fun _ => 0⟩ w ⟨[], []⟩ w :=
        ⟨Below.refl _ w, hc, (fun _ _ h => by cases h), (fun _ _ h => by simp at h), (fun _ _ _ _ _ h => by cases h), (fun _ _ h => by cases h), (fun _ _ h => by simp at h), (fun _ _ _ _ h => by cases h), hg, (fun _ h => absurd h (Nat.lt_irrefl 0))⟩
      refine (h2 ⟨X.cell, fun _ => none, fun _ => none, fun _ => 0⟩ w w vs M (shuts_rep (X := X) (Y := ⟨X.cell, fun _ => none, fun _ => none, fun _ => 0⟩) rfl hs hrep)).mono ?_
      rintro _ w' ⟨u, X', rfl, _, k2, k3, _⟩
      exact ⟨by rw [val_rep h k2], k3.below⟩
    · cases h
end Go.Vs.Ab
