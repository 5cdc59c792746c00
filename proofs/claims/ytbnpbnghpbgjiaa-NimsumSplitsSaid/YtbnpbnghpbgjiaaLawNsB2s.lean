/- Plain: the values of lists of up to three heaps of at most 6, a part of them. -/
import Derived.Test.YtbnpbnghpbgjiaaLawNsAs
set_option linter.unusedVariables false
set_option linter.unusedSimpArgs false
namespace Go.Proofs.Ytbnpbnghpbgjiaa.Am
open Go

def nsL20 : List (List Nat) := [[5, 5, 6]]
theorem nsT20 : nsL20.all nsOk = true := by decide +kernel
def nsL21 : List (List Nat) := [[3, 6, 6], [6, 6]]
theorem nsT21 : nsL21.all nsOk = true := by decide +kernel
def nsL22 : List (List Nat) := [[1, 6, 6], [3, 5, 5], [3, 4, 6], [2, 5, 5]]
theorem nsT22 : nsL22.all nsOk = true := by decide +kernel
def nsL23 : List (List Nat) := [[2, 4, 6], [3, 6], [1, 4, 5], [4, 4, 4], [2, 3, 5], [6], [1, 2, 6], [0, 1, 6], [4, 4], [1, 5], [0, 5], [0, 0, 5], [3, 3, 3], [2, 3, 3], [1, 2, 4], [0, 2, 4], [2, 3], [1, 1, 3], [0, 0, 3], [1, 1, 2], [0, 2, 2], [0, 1], [0, 0]]
theorem nsT23 : nsL23.all nsOk = true := by decide +kernel
def nsL2 : List (List Nat) := nsL20 ++ nsL21 ++ nsL22 ++ nsL23
theorem nsT2 : nsL2.all nsOk = true := by
  unfold nsL2
  simp only [List.all_append, nsT20, nsT21, nsT22, nsT23, Bool.and_self]
end Go.Proofs.Ytbnpbnghpbgjiaa.Am
