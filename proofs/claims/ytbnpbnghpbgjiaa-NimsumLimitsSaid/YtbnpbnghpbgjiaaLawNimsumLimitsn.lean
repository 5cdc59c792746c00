/- The plain law NimsumLimits: the plain function says true at every input. -/
import Derived.Test.YtbnpbnghpbgjiaaLawNimHn
set_option linter.unusedVariables false
set_option linter.unusedSimpArgs false
namespace Go.Proofs.Ytbnpbnghpbgjiaa.Am
open Go

theorem five_bound : nimsum_Value_int 300000000 0 5 5 = some (0, 17) := by decide +kernel
theorem limits_tail (n most : Int) (h0 : 0 ≤ n) (h1 : n < 60) : ((nimsum_Value_int 300000000 0 n most).bind fun y9 =>
  bif (ltI most 1) then (some (eqI y9.2 1))
  else bif (ltI 20000 most) then (some (eqI y9.2 1))
  else bif (ltI most (w64 (n + 1))) then (some (eqI y9.2 17))
  else some (eqI y9.2 0)) = some true := by
  rw [w64_id (by omega) (by omega)]
  by_cases c1 : most < 1
  · have e : nimsum_Value_int 300000000 0 n most = some (0, 1) := by
      unfold nimsum_Value_int nimsum_Value_int.e
      rw [bif_t (ltI_t c1)]
    rw [e, Option.bind_some, bif_t (ltI_t c1)]
    rfl
  by_cases c2 : 20000 < most
  · have e : nimsum_Value_int 300000000 0 n most = some (0, 1) := by
      unfold nimsum_Value_int nimsum_Value_int.e
      rw [bif_f (ltI_f (by omega)), bif_t (ltI_t c2)]
    rw [e, Option.bind_some, bif_f (ltI_f (by omega)), bif_t (ltI_t c2)]
    rfl
  by_cases c3 : most < n + 1
  · rw [heap_bound (by decide) h0 (by omega) (by omega) (by omega), Option.bind_some, bif_f (ltI_f (by omega)), bif_f (ltI_f (by omega)), bif_t (ltI_t c3)]
    rfl
  · rw [heap_value (by decide) h0 (by omega) (by omega) (by omega), Option.bind_some, bif_f (ltI_f (by omega)), bif_f (ltI_f (by omega)), bif_f (ltI_f (by omega))]
    rfl
theorem nimsumLimits_at (n most : Int) : gamehallkeep1_NimsumLimits 300000000 n most = some true := by
  have hn := tmodP (a := n) 60 (by decide) (by decide)
  unfold gamehallkeep1_NimsumLimits gamehallkeep1_NimsumLimits.e
  rw [five_bound, Option.bind_some, bif_f (by rfl), summed_true, Option.bind_some, bif_f (by rfl)]
  by_cases c : 20000 < n
  · have e : nimsum_Heap_Next 300000000 0 n = some [] := by
      unfold nimsum_Heap_Next nimsum_Heap_Next.e
      rw [bif_t (ltI_t c)]
    rw [bif_t (ltI_t c), e, Option.bind_some, bif_f (by rfl)]
    exact limits_tail _ most hn.1 hn.2
  · rw [bif_f (ltI_f (by omega))]
    exact limits_tail _ most hn.1 hn.2
end Go.Proofs.Ytbnpbnghpbgjiaa.Am
