/- Plain: slices.Equal of whole numbers. -/
import Derived.Test.YtiacnffpgdikoaaFnq1
import Derived.Test.YtiacnffpgdikoaaLawRetq
set_option linter.unusedVariables false
set_option linter.unusedSimpArgs false
namespace Go.Proofs.Ytiacnffpgdikoaa.Am
open Go

theorem equal_loop (N : Nat) (a b : List Int) (hs : a.length < 4611686018427387904) (hl : a.length = b.length) : ∀ (k j n : Nat), j + k = a.length → k < n →
    slices_Equal_int_int.l0 N a b n (j : Int) = some (decide (a.drop j = b.drop j))
  | 0, j, n + 1, hk, hn => by
    simp only [slices_Equal_int_int.l0_s, slices_Equal_int_int.s0]
    rw [bif_f (ltI_f (by omega)), List.drop_of_length_le (by omega), List.drop_of_length_le (by omega)]
    rfl
  | k + 1, j, n + 1, hk, hn => by
    have hj : j < a.length := by omega
    have hj' : j < b.length := by omega
    simp only [slices_Equal_int_int.l0_s, slices_Equal_int_int.s0]
    rw [bif_t (ltI_t (by omega)), chk_of (idx_ok hj), chk_of (idx_ok hj'), gD_nat hj, gD_nat hj', List.drop_eq_getElem_cons hj, List.drop_eq_getElem_cons hj']
    by_cases h0 : a[j] = b[j]
    · rw [bif_f (by simp [eqI, h0]), w64_id (by omega) (by omega)]
      have := equal_loop N a b hs hl k (j + 1) n (by omega) (by omega)
      rw [show ((j : Int) + 1) = ((j + 1 : Nat) : Int) by omega, this]
      exact congrArg some (decide_eq_decide.2 ⟨fun e => by rw [e, h0], fun e => (List.cons.inj e).2⟩)
    · rw [bif_t (by simp [eqI, h0])]
      exact congrArg some (decide_eq_false fun e => h0 (List.cons.inj e).1).symm
theorem equal_eq {N : Nat} {a b : List Int} (ha : a.length < 4611686018427387904) (hb : b.length < 4611686018427387904) (hN : a.length < N) : slices_Equal_int_int N a b = some (decide (a = b)) := by
  simp only [slices_Equal_int_int, slices_Equal_int_int.e]
  by_cases hl : a.length = b.length
  · rw [bif_f (by simp [eqI, hl])]
    have := equal_loop N a b ha hl a.length 0 N (by omega) hN
    simpa using this
  · rw [bif_t (by simp [eqI]; omega)]
    have : a ≠ b := fun e => hl (by rw [e])
    simp [this]

end Go.Proofs.Ytiacnffpgdikoaa.Am
