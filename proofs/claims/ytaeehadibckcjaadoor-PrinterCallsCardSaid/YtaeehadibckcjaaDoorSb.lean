/-
  Chapter 4: the contract of sort.Search, for whatever predicate; of Get.
-/
import Derived.Test.YtaeehadibckcjaaDoorSa
namespace Go.Proofs.YtaeehadibckcjaaDoor
open Go.RowKit Go.Vs Go.Maps Go.ChangeMaps Go.WideMaps

def SearchPost (n : Nat) (p : Nat → Bool) (w : World) (e : Ending) (w' : World) : Prop :=
  ∃ i : Nat, e = .returned (.int .i64 i) ∧ i ≤ n ∧ (0 < i → p (i - 1) = false) ∧ (i < n → p i = true) ∧ ∃ q, w' = w.drewN q

theorem Rd.block {w : World} {size n : Nat} {a : Option Addr} {cap : Nat} {xs : List Value} (h : Rd w size (.slice a n cap) n xs) : n ≤ maxLen := by
  rcases h.2 with ⟨_, rfl⟩ | ⟨_, _, _, h3, h4, _⟩
  · exact Nat.zero_le _
  · omega

/-- The predicate of Get's search. -/
def getP (l : List Bd) (v : ByteArray) (i : Nat) : Bool := match l[i]? with | some b => !blt b.var v | none => false

end Go.Proofs.YtaeehadibckcjaaDoor
