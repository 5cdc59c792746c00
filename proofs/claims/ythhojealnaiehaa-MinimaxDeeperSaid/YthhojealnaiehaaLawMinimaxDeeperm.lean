/- The plain law MinimaxDeeper: the plain function says true at every input. -/
import Derived.Test.YthhojealnaiehaaLawTreem
import Derived.Test.YthhojealnaiehaaLawFinem
set_option linter.unusedVariables false
set_option linter.unusedSimpArgs false
set_option linter.unusedSectionVars false
namespace Go.Proofs.Ythhojealnaiehaa.Am
open Go

theorem scored_trueD : gamehallkeep1_scored 300000000 = some true := by decide +kernel
theorem minimaxDeeper_at (r : RulesT) (p : PosT) (depth more : Int) : gamehallkeep1_MinimaxDeeper 300000000 r p depth more = some true := by
  have hsc := scored_trueD
  obtain ⟨h1, hh1, _⟩ := heavy_ret (N := 300000000) (by decide) r p depth
  have b1 := Int.tmod_lt_of_pos more (show (0 : Int) < 3 by decide)
  have b2 : -3 < Int.tmod more 3 := by
    have := Int.tmod_lt_of_pos (-more) (show (0 : Int) < 3 by decide)
    rw [Int.neg_tmod] at this
    omega
  unfold gamehallkeep1_MinimaxDeeper gamehallkeep1_MinimaxDeeper.e
  rw [hsc, Option.bind_some, bif_f (by rfl), w64_id (x := Int.tmod more 3 + 3) (by omega) (by omega)]
  have c1 := Int.tmod_lt_of_pos (Int.tmod more 3 + 3) (show (0 : Int) < 3 by decide)
  have c2 := Int.tmod_nonneg 3 (show 0 ≤ Int.tmod more 3 + 3 by omega)
  dsimp only
  generalize Int.tmod (Int.tmod more 3 + 3) 3 = k at *
  rw [hh1, Option.bind_some]
  cases h1 with
  | true => rfl
  | false =>
    rw [bif_f rfl]
    by_cases c4 : 4 < depth
    · rw [bif_t (ltI_t c4)]
    · rw [bif_f (ltI_f (by omega))]
      obtain ⟨h2, hh2, _⟩ := heavy_ret (N := 300000000) (by decide) r p (w64 (depth + k))
      obtain ⟨z, hz, hz2⟩ := score_ret (N := 300000000) (by decide) r p depth
      obtain ⟨y, hy, hy2⟩ := score_ret (N := 300000000) (by decide) r p (w64 (depth + k))
      rw [hh2, Option.bind_some]
      cases h2 with
      | true => rfl
      | false =>
        rw [bif_f rfl, hz, Option.bind_some, hy, Option.bind_some, fine_eq (by simp) (by simp), Option.bind_some]
        by_cases hf : z.2 = 0 ∧ y.2 = 0
        · rw [decide_eq_true (by simp [hf.1, hf.2]), bif_f (by rfl)]
          rcases hz2 with ⟨k1, _⟩ | ⟨_, hr, hp, k3, k4, k5⟩
          · exact absurd hf.1 k1
          rcases hy2 with ⟨k1, _⟩ | ⟨_, _, _, l3, l4, l5⟩
          · exact absurd hf.2 k1
          by_cases h0 : z.1 = 0
          · rw [bif_t (eqI_t h0)]
          · rw [bif_f (eqI_f h0)]
            rw [w64_id (x := depth + k) (by omega) (by omega)] at l5
            have := val_deeper hr k.toNat depth.toNat (by omega) hp (by rw [← k5]; exact h0)
            rw [show depth.toNat + k.toNat = (depth + k).toNat by omega, ← k5, ← l5] at this
            rw [this, eqI_self]
        · rw [decide_eq_false (by simpa using hf), bif_t (by rfl)]
end Go.Proofs.Ythhojealnaiehaa.Am
