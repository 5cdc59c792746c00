/- Plain words: numbers that do not wrap, rows that are read. -/
import Derived.Test.YtfihdjjilofklaaGreatAm14
set_option linter.unusedVariables false
set_option linter.unusedSimpArgs false
namespace Go.Proofs.YtfihdjjilofklaaGreat.Am
open Go
theorem w64_id {x : Int} (h1 : -9223372036854775808 ≤ x) (h2 : x ≤ 9223372036854775807) : w64 x = x := by
 unfold w64 IntKind.wrap
 have e : (2 : Int) ^ IntKind.bits .i64 = 18446744073709551616 := by decide
 have e' : (2 : Int) ^ (IntKind.bits .i64 - 1) = 9223372036854775808 := by decide
 simp only [e, e']
 split <;> rename_i h <;> simp [IntKind.signed] at h <;> omega
theorem chk_of {R : Type} {b : Bool} {x : Option R} (h : b = true) : chk b x = x := by subst h; rfl
theorem bif_t {α : Type} {c : Bool} {x y : α} (h : c = true) : (bif c then x else y) = x := by subst h; rfl
theorem bif_f {α : Type} {c : Bool} {x y : α} (h : c = false) : (bif c then x else y) = y := by subst h; rfl
theorem ltI_t {a b : Int} (h : a < b) : ltI a b = true := by simp [ltI, h]
theorem ltI_f {a b : Int} (h : b ≤ a) : ltI a b = false := by simp [ltI]; omega
theorem leI_t {a b : Int} (h : a ≤ b) : leI a b = true := by simp [leI, h]
theorem leI_f {a b : Int} (h : b < a) : leI a b = false := by simp [leI]; omega
theorem eqI_t {a b : Int} (h : a = b) : eqI a b = true := by simp [eqI, h]
theorem eqI_f {a b : Int} (h : a ≠ b) : eqI a b = false := by simp [eqI, h]
theorem eqI_self (a : Int) : eqI a a = true := by simp [eqI]
theorem chk_true {R : Type} (x : Option R) : chk true x = x := rfl
theorem idx_ok {α : Type} {l : List α} {i : Nat} (h : i < l.length) : (leI 0 (i : Int) && ltI (i : Int) (l.length : Int)) = true := by
 rw [leI_t (by omega), ltI_t (by omega)]; rfl
theorem gD_nat {α : Type} {d : α} {l : List α} {i : Nat} (h : i < l.length) : gD d l (i : Int) = l[i] := by
 simp [gD, h]
theorem gD_nat' {α : Type} {d : α} {l : List α} {i : Nat} : gD d l (i : Int) = l.getD i d := by simp [gD]
end Go.Proofs.YtfihdjjilofklaaGreat.Am
