/- Plain: the values of lists of up to three heaps of at most 6, a part of them. -/
import Derived.Test.YtbnpbnghpbgjiaaLawNsAs
set_option linter.unusedVariables false
set_option linter.unusedSimpArgs false
namespace Go.Proofs.Ytbnpbnghpbgjiaa.Am
open Go

def nsL10 : List (List Nat) := [[5, 6, 6]]
theorem nsT10 : nsL10.all nsOk = true := by decide +kernel
def nsL11 : List (List Nat) := [[3, 5, 6], [0, 6, 6]]
theorem nsT11 : nsL11.all nsOk = true := by decide +kernel
def nsL12 : List (List Nat) := [[2, 5, 6], [4, 4, 5], [1, 5, 5], [1, 4, 6], [3, 3, 5], [1, 3, 6], [3, 5], [1, 3, 5], [2, 6]]
theorem nsT12 : nsL12.all nsOk = true := by decide +kernel
def nsL13 : List (List Nat) := [[1, 1, 6], [0, 0, 6], [2, 5], [1, 4, 4], [0, 4, 4], [3, 4], [0, 3, 4], [1, 4], [0, 4], [0, 0, 4], [1, 2, 3], [0, 1, 3], [2], [1, 1, 1], [0, 2], [0, 0, 2], [0]]
theorem nsT13 : nsL13.all nsOk = true := by decide +kernel
def nsL1 : List (List Nat) := nsL10 ++ nsL11 ++ nsL12 ++ nsL13
theorem nsT1 : nsL1.all nsOk = true := by
  unfold nsL1
  simp only [List.all_append, nsT10, nsT11, nsT12, nsT13, Bool.and_self]
end Go.Proofs.Ytbnpbnghpbgjiaa.Am
