/- Plain: the score of a position. -/
import Derived.Test.YtnckilklmkpooaaLawTree0y
import Derived.Test.YtnckilklmkpooaaLawValuey
set_option linter.unusedVariables false
set_option linter.unusedSimpArgs false
set_option linter.unusedSectionVars false
namespace Go.Proofs.Ytnckilklmkpooaa.Am
open Go

section
variable {N : Nat} (hN : 200000100 ≤ N) (r : RulesT) (p : PosT) (depth : Int)
include hN
/-- the score of a position: 0 and an error, or its value -/
theorem score_ret : Ret (minimax_Score N r p depth) fun z => (z.2 ≠ 0 ∧ z.1 = 0) ∨ (z.2 = 0 ∧ ROk r ∧ POk r p ∧ 0 ≤ depth ∧ depth ≤ 12 ∧ z.1 = val r depth.toNat p) := by
  unfold minimax_Score minimax_Score.e minimax_Check minimax_Check.e
  obtain ⟨z, hz, hz2⟩ := tree_ret hN r p depth
  rw [hz, Option.bind_some, Option.bind_some]
  rcases hz2 with ⟨h1, h2⟩ | ⟨h1, hr, hp, h3, h4⟩
  · rw [bif_t (by rw [eqI_f h1]; rfl)]
    exact Ret.ret (Or.inl ⟨h1, rfl⟩)
  · rw [bif_f (by rw [eqI_t h1]; rfl), new_good (by omega) hr hp, Option.bind_some]
    show Ret ((minimax_Value' N (r, (p, (U (keyS p), []))) depth).bind _) _
    obtain ⟨d, rfl⟩ : ∃ d : Nat, depth = d := ⟨depth.toNat, by omega⟩
    rw [value_ok d N (by omega) (by omega) (b := (r, (p, (U (keyS p), [])))) ⟨hr, hp, rfl⟩ (by simp; omega), Option.bind_some]
    exact Ret.ret (Or.inr ⟨rfl, hr, hp, by omega, by omega, by rw [Int.toNat_natCast]⟩)
end
end Go.Proofs.Ytnckilklmkpooaa.Am
