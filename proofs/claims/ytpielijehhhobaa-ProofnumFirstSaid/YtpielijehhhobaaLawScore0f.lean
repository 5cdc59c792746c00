/- Plain: the score of a result, and a score one move nearer. -/
import Derived.Test.YtpielijehhhobaaLawGamef
set_option linter.unusedVariables false
set_option linter.unusedSimpArgs false
set_option linter.unusedSectionVars false
namespace Go.Proofs.Ytpielijehhhobaa.Am
open Go
theorem nearer_eq (N : Nat) {n : Int} (h : -10000 ≤ n ∧ n ≤ 10000) : Q72 N n = some (near n) := by
 unfold Q72 Q72.e near
 by_cases c : 0 < n
 ·rw [bif_t (ltI_t c), if_pos c, w64_id (by omega) (by omega)]
 ·rw [bif_f (ltI_f (by omega)), if_neg c]
  by_cases c2 : n < 0
  ·rw [bif_t (ltI_t c2), if_pos c2, w64_id (by omega) (by omega)]
  ·rw [bif_f (ltI_f (by omega)), if_neg c2]
theorem escore_eq (N : Nat) (x : Int) {t : Int} (ht : t = 0 ∨ t = 1) : Q71 N x t = some (scoreV x t) := by
 have w : ∀ u : Int, 0 ≤ u ∧ u ≤ 1 → Q81 N u = some (1 + u) := fun u hu => by
  unfold Q81 Q81.e
  rw [w64_id (by omega) (by omega)]
 unfold Q71 Q71.e scoreV
 rw [w t (by omega), Option.bind_some, w64_id (x := 1 - t) (by omega) (by omega), w (1 - t) (by omega), Option.bind_some]
 by_cases c : x = 1 + t
 ·rw [bif_t (eqI_t c), if_pos c]
 ·rw [bif_f (eqI_f c), if_neg c, show 1 + (1 - t) = 2 - t by omega]
  by_cases c2 : x = 2 - t
  ·rw [bif_t (eqI_t c2), if_pos c2]
  ·rw [bif_f (eqI_f c2), if_neg c2]
end Go.Proofs.Ytpielijehhhobaa.Am
