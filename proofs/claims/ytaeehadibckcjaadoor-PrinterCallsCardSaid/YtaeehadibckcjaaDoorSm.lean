/-
  Chapter 4: two, lives.
-/
import Derived.Test.YtaeehadibckcjaaDoorSl
namespace Go.Proofs.YtaeehadibckcjaaDoor
open Go.RowKit Go.Vs Go.Maps Go.ChangeMaps Go.WideMaps

def twoL : List Bd := [⟨⟨#[88]⟩, ⟨false, ⟨#[98]⟩⟩⟩, ⟨⟨#[89]⟩, ⟨true, ⟨#[90]⟩⟩⟩]

def sAlice : ByteArray := ⟨#[97, 108, 105, 99, 101]⟩
def sP : ByteArray := ⟨#[112]⟩
def goal1 : Atm := pA sAlice sP [⟨#[88]⟩, ⟨#[89]⟩, ⟨#[97]⟩]
def goal2 : Atm := pA sAlice sP [⟨#[98]⟩, ⟨#[90]⟩, ⟨#[97]⟩]

theorem two_goal : papp twoL goal1 = goal2 := by decide +kernel
theorem two_ok : pcheck twoL = true := by
  have h : prises twoL = true := by
    simp only [twoL, prises, blt, ByteArray.toList_eq]
    decide +kernel
  unfold pcheck
  rw [h, Bool.true_and]
  decide +kernel
theorem goal2_okay : Atm.okay goal2 := by
  refine ⟨?_, ?_, by decide +kernel, ?_, ?_, ?_, ?_⟩
  all_goals (try unfold Tm.okay) <;> (unfold maxLen; decide +kernel)

end Go.Proofs.YtaeehadibckcjaaDoor
