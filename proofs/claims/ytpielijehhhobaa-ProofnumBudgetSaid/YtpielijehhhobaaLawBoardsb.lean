/- Plain: boards and bounds that the kernel runs through. -/
import Derived.Test.YtpielijehhhobaaAm16
set_option linter.unusedVariables false
set_option linter.unusedSimpArgs false
namespace Go.Proofs.Ytpielijehhhobaa.Am
open Go
def boards (f : Nat → Nat → Bool) : Bool := (List.range 8).all fun i => (List.range 8).all fun j => f (i + 1) (j + 1)
theorem boards_at {f : Nat → Nat → Bool} (hf : boards f = true) {w h : Nat} (hb : 1 ≤ w ∧ w ≤ 8 ∧ 1 ≤ h ∧ h ≤ 8) : f w h = true := by
 have := List.all_eq_true.1 hf (w - 1) (List.mem_range.2 (by omega))
 have := List.all_eq_true.1 this (h - 1) (List.mem_range.2 (by omega))
 rw [show w - 1 + 1 = w by omega, show h - 1 + 1 = h by omega] at this
 exact this
def upto (n : Nat) (f : Nat → Bool) : Bool := (List.range n).all f
theorem upto_at {n : Nat} {f : Nat → Bool} (hf : upto n f = true) {i : Nat} (hi : i < n) : f i = true := List.all_eq_true.1 hf i (List.mem_range.2 hi)
theorem blt_lt {a b : Nat} (h : Nat.blt a b = true) : a < b := Nat.le_of_ble_eq_true h
theorem area_le {w h : Nat} (hb : 1 ≤ w ∧ w ≤ 8 ∧ 1 ≤ h ∧ h ≤ 8) : w * h ≤ 64 := Nat.le_trans (Nat.mul_le_mul hb.2.1 hb.2.2.2) (by decide)
end Go.Proofs.Ytpielijehhhobaa.Am
