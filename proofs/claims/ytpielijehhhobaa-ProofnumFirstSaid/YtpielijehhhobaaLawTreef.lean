/- Plain: the score of a position. -/
import Derived.Test.YtpielijehhhobaaLawTree0f
import Derived.Test.YtpielijehhhobaaLawValuef
set_option linter.unusedVariables false
set_option linter.unusedSimpArgs false
set_option linter.unusedSectionVars false
namespace Go.Proofs.Ytpielijehhhobaa.Am
open Go
section
variable {N : Nat} (hN : 200000100 ≤ N) (r : RulesT) (p : PosT) (depth : Int)
include hN
theorem score_ret : Ret (Q20 N r p depth) fun z => (z.2 ≠ 0 ∧ z.1 = 0) ∨ (z.2 = 0 ∧ ROk r ∧ POk r p ∧ 0 ≤ depth ∧ depth ≤ 12 ∧ z.1 = val r depth.toNat p) := by
 unfold Q20 Q20.e Q41 Q41.e
 obtain ⟨z, hz, hz2⟩ := tree_ret hN r p depth
 rw [hz, Option.bind_some, Option.bind_some]
 rcases hz2 with ⟨h1, h2⟩ | ⟨h1, hr, hp, h3, h4⟩
 ·rw [bif_t (by rw [eqI_f h1]; rfl)]
  exact Ret.ret (Or.inl ⟨h1, rfl⟩)
 ·rw [bif_f (by rw [eqI_t h1]; rfl), new_good (by omega) hr hp, Option.bind_some]
  show Ret ((Q42 N (r, (p, (U (keyS p), []))) depth).bind _) _
  obtain ⟨d, rfl⟩ : ∃ d : Nat, depth = d := ⟨depth.toNat, by omega⟩
  rw [value_ok d N (by omega) (by omega) (b := (r, (p, (U (keyS p), [])))) ⟨hr, hp, rfl⟩ (by simp; omega), Option.bind_some]
  exact Ret.ret (Or.inr ⟨rfl, hr, hp, by omega, by omega, by rw [Int.toNat_natCast]⟩)
end
end Go.Proofs.Ytpielijehhhobaa.Am
