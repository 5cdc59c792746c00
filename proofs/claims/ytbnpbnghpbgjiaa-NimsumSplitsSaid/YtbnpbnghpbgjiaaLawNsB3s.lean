/- Plain: the values of lists of up to three heaps of at most 6, a part of them. -/
import Derived.Test.YtbnpbnghpbgjiaaLawNsAs
set_option linter.unusedVariables false
set_option linter.unusedSimpArgs false
namespace Go.Proofs.Ytbnpbnghpbgjiaa.Am
open Go

def nsL30 : List (List Nat) := [[4, 6, 6]]
theorem nsT30 : nsL30.all nsOk = true := by decide +kernel
def nsL31 : List (List Nat) := [[4, 5, 6]]
theorem nsT31 : nsL31.all nsOk = true := by decide +kernel
def nsL32 : List (List Nat) := [[5, 5, 5], [2, 6, 6]]
theorem nsT32 : nsL32.all nsOk = true := by decide +kernel
def nsL33 : List (List Nat) := [[5, 6], [0, 5, 6], [3, 3, 6], [4, 6], [0, 4, 6], [2, 3, 6]]
theorem nsT33 : nsL33.all nsOk = true := by decide +kernel
def nsL34 : List (List Nat) := [[0, 3, 6], [3, 4, 4], [1, 6], [0, 2, 6], [5], [2, 2, 5], [1, 1, 5], [0, 1, 5], [1, 3, 4], [3, 3], [2, 2, 4], [1, 1, 4], [0, 1, 4], [2, 2, 3], [0, 3], [2, 2, 2], [1, 2, 2], [1, 1], [0, 1, 2], [0, 0, 1], []]
theorem nsT34 : nsL34.all nsOk = true := by decide +kernel
def nsL3 : List (List Nat) := nsL30 ++ nsL31 ++ nsL32 ++ nsL33 ++ nsL34
theorem nsT3 : nsL3.all nsOk = true := by
  unfold nsL3
  simp only [List.all_append, nsT30, nsT31, nsT32, nsT33, nsT34, Bool.and_self]
end Go.Proofs.Ytbnpbnghpbgjiaa.Am
