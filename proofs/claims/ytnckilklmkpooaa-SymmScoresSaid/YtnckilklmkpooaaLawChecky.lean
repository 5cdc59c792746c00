/- Plain: the check ahead of a search, and what the search starts from. -/
import Derived.Test.YtnckilklmkpooaaLawTreey
set_option linter.unusedVariables false
set_option linter.unusedSimpArgs false
set_option linter.unusedSectionVars false
namespace Go.Proofs.Ytnckilklmkpooaa.Am
open Go

section
variable {N : Nat} (hN : 200000100 ≤ N) (r : RulesT) (p : PosT) (depth : Int)
include hN
theorem mcheck_ret : Ret (minimax_Check N r p depth) fun e => e = 0 → ROk r ∧ POk r p ∧ 0 ≤ depth ∧ depth ≤ 12 := by
  unfold minimax_Check minimax_Check.e
  obtain ⟨z, hz, hz2⟩ := tree_ret hN r p depth
  rw [hz, Option.bind_some]
  refine Ret.ret fun h => ?_
  rcases hz2 with ⟨h1, _⟩ | ⟨_, h2⟩
  · exact absurd h h1
  · exact h2
theorem score_bad {e : Int} (he : minimax_Check N r p depth = some e) (h0 : e ≠ 0) : minimax_Score N r p depth = some (0, e) := by
  unfold minimax_Score minimax_Score.e
  rw [he, Option.bind_some, bif_t (by rw [eqI_f h0]; rfl)]
theorem score_good (he : minimax_Check N r p depth = some 0) (hr : ROk r) (hp : POk r p) (h1 : 0 ≤ depth) (h2 : depth ≤ 12) : minimax_Score N r p depth = some (val r depth.toNat p, 0) := by
  unfold minimax_Score minimax_Score.e
  rw [he, Option.bind_some, bif_f (by rfl), new_good (by omega) hr hp, Option.bind_some]
  show (minimax_Value' N (r, (p, (U (keyS p), []))) depth).bind _ = _
  obtain ⟨d, rfl⟩ : ∃ d : Nat, depth = d := ⟨depth.toNat, by omega⟩
  rw [value_ok d N (by omega) (by omega) (b := (r, (p, (U (keyS p), [])))) ⟨hr, hp, rfl⟩ (by simp; omega), Option.bind_some, Int.toNat_natCast]
end
end Go.Proofs.Ytnckilklmkpooaa.Am
