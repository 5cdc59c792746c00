/- Plain: the result of a position. -/
import Derived.Test.YtpielijehhhobaaLawEndsr
set_option linter.unusedVariables false
set_option linter.unusedSimpArgs false
set_option linter.unusedSectionVars false
namespace Go.Proofs.Ytpielijehhhobaa.Am
open Go
def resV (r : RulesT) (p : PosT) : Int := resI r p (!(cand r p).isEmpty) (r.2.2.2.2.2.2.2.1)
theorem any_eq {r : RulesT} {p : PosT} {g : List MvT} (hg : IsGen r p g) : ltI 0 (g.length : Int) = !(cand r p).isEmpty := by
 cases hc : cand r p with
 | nil =>
  cases g with
  | nil => rfl
  | cons a g => have := (hg.mem a).1 (List.mem_cons_self ..); rw [hc] at this; cases this
 | cons a l =>
  cases g with
  | nil => have := (hg.mem a).2 (by rw [hc]; exact List.mem_cons_self ..); cases this
  | cons b g => rw [ltI_t (by simp)]; rfl
end Go.Proofs.Ytpielijehhhobaa.Am
