/- Plain: the functions that make moves. -/
import Derived.Test.YtpielijehhhobaaLawContainsf
import Derived.Test.YtpielijehhhobaaLawDoEqf
set_option linter.unusedVariables false
set_option linter.unusedSimpArgs false
set_option linter.unusedSectionVars false
namespace Go.Proofs.Ytpielijehhhobaa.Am
open Go
abbrev noP : PosT := ([], (([], []), (0, 0)))
section
variable {N : Nat} (hN : 200000 ≤ N) {r : RulesT} (hr : ROk r) {p : PosT} (hp : POk r p) {l : List MvT} (hl : Q38 N r p = some l) (hg : IsGen r p l)
include hN hr hp hl hg
theorem all_good : Q17 N r p = some (l, 0) := by
 unfold Q17 Q17.e
 rw [pcheck_ok (by omega) hr hp, Option.bind_some, bif_f (by rfl), hl, Option.bind_some]
theorem legal_good (m : MvT) : Q36 N r p m = some (decide (m ∈ l), 0) := by
 have := hg.len
 unfold Q36 Q36.e
 rw [pcheck_ok (by omega) hr hp, Option.bind_some, bif_f (by rfl), hl, Option.bind_some, contains_eq l m (by omega) hN, Option.bind_some]
theorem after_good {m : MvT} (hm : m ∈ l) : Q23 N r p m = some (doI r p m, 0) := by
 unfold Q23 Q23.e
 rw [legal_good hN hr hp hl hg, Option.bind_some, bif_f (by rfl), bif_f (by simp [hm]), do_eq hr hp N (cand_ok hr hp ((hg.mem m).1 hm)), Option.bind_some]
theorem after_none {m : MvT} (hm : m ∉ l) : Q23 N r p m = some (noP, 13) := by
 unfold Q23 Q23.e
 rw [legal_good hN hr hp hl hg, Option.bind_some, bif_f (by rfl), bif_t (by simp [hm])]
end
theorem all_bad {N : Nat} {r : RulesT} {p : PosT} {v : Int} (hv : Q37 N r p = some v) (h0 : v ≠ 0) : Q17 N r p = some ([], v) := by
 unfold Q17 Q17.e
 rw [hv, Option.bind_some, bif_t (by simp [eqI, h0])]
end Go.Proofs.Ytpielijehhhobaa.Am
