/- Plain: the values of lists of heaps that are divided; values of single heaps. -/
import Derived.Test.YtbnpbnghpbgjiaaLawNimXs
set_option linter.unusedVariables false
set_option linter.unusedSimpArgs false
namespace Go.Proofs.Ytbnpbnghpbgjiaa.Am
open Go

def nI (l : List Nat) : List Int := l.map Int.ofNat
def grN (a : Nat) : Nat := [0, 0, 0, 1, 0, 2, 1].getD a 0
def grF (a : Nat) (l : List Nat) : Nat := l.foldl (fun x y => x ^^^ grN y) a
def nsOk (l : List Nat) : Bool := decide (nimsum_Value_string 300000000 () (strOfNums (nI l)) 20000 = some (((grF 0 l : Nat) : Int), 0))
theorem ns_one : ∀ a : Nat, a < 7 → nimsum_Value_string 300000000 () (strOfNums (nI [a])) 1000 = some (((grN a : Nat) : Int), 0) := by decide +kernel
end Go.Proofs.Ytbnpbnghpbgjiaa.Am
