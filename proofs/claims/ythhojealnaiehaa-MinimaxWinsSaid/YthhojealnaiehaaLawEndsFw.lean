/- Plain: the result of a position that is checked. -/
import Derived.Test.YthhojealnaiehaaLawEndsw
set_option linter.unusedVariables false
set_option linter.unusedSimpArgs false
set_option linter.unusedSectionVars false
namespace Go.Proofs.Ythhojealnaiehaa.Am
open Go

section
variable {r : RulesT} (hr : ROk r) {p : PosT} (hp : POk r p)
include hr hp
theorem ends_good {N : Nat} (hN : 30000 ≤ N) {l : List MvT} (hl : moves_Gen N r p = some l) : ends_Of N r p = some (resI r p (ltI 0 (l.length : Int)) (r.2.2.2.2.2.2.2.1), 0) := by
  unfold ends_Of ends_Of.e
  rw [pcheck_ok (by omega) hr hp, Option.bind_some, bif_f (by rfl), result_eq hr hp hN hl, Option.bind_some]
end
theorem ends_bad {N : Nat} {r : RulesT} {p : PosT} {v : Int} (hv : place_Check N r p = some v) (h0 : v ≠ 0) : ends_Of N r p = some (0, v) := by
  unfold ends_Of ends_Of.e
  rw [hv, Option.bind_some, bif_t (by simp [eqI, h0])]
end Go.Proofs.Ythhojealnaiehaa.Am
