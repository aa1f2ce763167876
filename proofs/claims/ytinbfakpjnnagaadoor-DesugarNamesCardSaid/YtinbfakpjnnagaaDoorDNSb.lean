/-
  Chapter 4: the contract of sort.Search, for whatever predicate; of Get.
-/
import Derived.Test.YtinbfakpjnnagaaDoorDNSa
namespace Go.Proofs.YtinbfakpjnnagaaDoor
open Go.RowKit Go.Vs Go.Maps Go.ChangeMaps Go.WideMaps
theorem Rd.block {w : World} {size n : Nat} {a : Option Addr} {cap : Nat} {xs : List Value} (h : Rd w size (.slice a n cap) n xs) : n ≤ maxLen := by
  rcases h.2 with ⟨_, rfl⟩ | ⟨_, _, _, h3, h4, _⟩
  · exact Nat.zero_le _
  · omega
end Go.Proofs.YtinbfakpjnnagaaDoor
