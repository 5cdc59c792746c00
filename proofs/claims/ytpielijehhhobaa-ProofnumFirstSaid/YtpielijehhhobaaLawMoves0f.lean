/- Plain: the moves and the result of a board. -/
import Derived.Test.YtpielijehhhobaaLawUndof
import Derived.Test.YtpielijehhhobaaLawRes0f
set_option linter.unusedVariables false
set_option linter.unusedSimpArgs false
set_option linter.unusedSectionVars false
namespace Go.Proofs.Ytpielijehhhobaa.Am
open Go
section
variable {N : Nat} (hN : 200000000 ≤ N) {b : BoardT} (hb : BOk b)
include hN hb
theorem bresult_eq : Q32 N b = some (resV b.1 b.2.1) := by
 obtain ⟨g, hg, hgg⟩ := gen_ret hb.r hb.p hN
 unfold Q32 Q32.e
 rw [result_eq hb.r hb.p (by omega) hg, Option.bind_some, any_eq hgg]
 rfl
theorem bmoves_ret : Ret (Q34 N b) fun l => (resV b.1 b.2.1 ≠ 0 → l = []) ∧ (resV b.1 b.2.1 = 0 → IsGen b.1 b.2.1 l) := by
 obtain ⟨g, hg, hgg⟩ := gen_ret hb.r hb.p hN
 unfold Q34 Q34.e
 rw [bresult_eq hN hb, Option.bind_some]
 by_cases h : resV b.1 b.2.1 = 0
 ·rw [bif_f (by rw [eqI_t h]; rfl), hg, Option.bind_some]
  exact Ret.ret ⟨fun h' => absurd h h', fun _ => hgg⟩
 ·rw [bif_t (by rw [eqI_f h]; rfl)]
  exact Ret.ret ⟨fun _ => rfl, fun h' => absurd h' h⟩
end
end Go.Proofs.Ytpielijehhhobaa.Am
