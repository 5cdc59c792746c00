/- Plain: the values of lists of up to three heaps of at most 6, a part of them. -/
import Derived.Test.YtbnpbnghpbgjiaaLawNsAs
set_option linter.unusedVariables false
set_option linter.unusedSimpArgs false
namespace Go.Proofs.Ytbnpbnghpbgjiaa.Am
open Go

def nsL00 : List (List Nat) := [[6, 6, 6]]
theorem nsT00 : nsL00.all nsOk = true := by decide +kernel
def nsL01 : List (List Nat) := [[4, 5, 5], [4, 4, 6], [1, 5, 6]]
theorem nsT01 : nsL01.all nsOk = true := by decide +kernel
def nsL02 : List (List Nat) := [[3, 4, 5], [5, 5], [0, 5, 5], [4, 5], [2, 4, 5], [0, 4, 5], [0, 3, 5], [2, 2, 6], [0, 6], [3, 3, 4], [2, 4, 4], [1, 2, 5], [0, 2, 5], [2, 3, 4], [4], [2, 4], [1, 3, 3], [0, 3, 3], [3], [1, 3], [0, 2, 3], [2, 2], [1, 2], [1], [0, 1, 1], [0, 0, 0]]
theorem nsT02 : nsL02.all nsOk = true := by decide +kernel
def nsL0 : List (List Nat) := nsL00 ++ nsL01 ++ nsL02
theorem nsT0 : nsL0.all nsOk = true := by
  unfold nsL0
  simp only [List.all_append, nsT00, nsT01, nsT02, Bool.and_self]
end Go.Proofs.Ytbnpbnghpbgjiaa.Am
